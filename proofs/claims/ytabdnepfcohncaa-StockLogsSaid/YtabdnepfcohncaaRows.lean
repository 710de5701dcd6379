/-
  No cell of these rows narrows 'for every input' (looked for: loops, veiled, ifaces, maps, wideKeys, modest, calm, conditions, laid).
  DERIVED. THE GIVEN ROWS OF THIS SEAT. 13 by the template 'for every input the law returns true; each argument reads behind the call as it read before'; 0 by the template 'total and deterministic' (their statements: YtabdnepfcohncaaTotals.lean).
  GIVEN WITH THE SEED: the statements are not yours to turn. If you find one false, say at which input.
  Laid BY PROGRAM, IN A SANDBOX (cutbox-rows.mjs): the forced cells as the released guide's own fill.sh prints them over the translation 51aec87bdacfca08… (all of the seat's roots in one cut). By AI agents, Wed Nov 11 2026. No macro, syntax, notation, axiom, sorry.
-/
import Derived.Test.YtabdnepfcohncaaChecked
import GoSem.Claim
import GoSem.ClaimJoined
import GoSem.ClaimMapViews
import Derived.JoinedTies
import Derived.KernelRfl
namespace Go.Proofs.Ytabdnepfcohncaa
/- THE CELL 'sum', in the pinned program and in every row, IS THE sha256 OF THE DUMP (.gsa) THAT YtabdnepfcohncaaProg.lean LOADS. Nothing in Lean hashes anything: it is a label: what it is worth is what the hold of that sum in a sandbox is worth. -/
noncomputable def Try.pinned : Pinned := { name := "ytabdnepfcohncaa", sum := "51aec87bdacfca080d03dae5514a5b08c7911e9d51bd277c6c3d73e070e05d1c", checked := Try.checked }
namespace Rows
def none {H : Type} : Left H := { results := [], args := [] }

/-- 'tranklaw09.StockTurned': WHATEVER THE INPUT: true; the input reads as it did. -/
def stockTurnedSpec : ChangeSpec := { name := "stockTurned", fn := fun _ => fun
  | [d1, d2, d3] => { results := [.lit (.bool true)], args := [d1, d2, d3] }
  | _ => none }
def stockTurnedRow : OpenClaim := { program := "ytabdnepfcohncaa", sum := "51aec87bdacfca080d03dae5514a5b08c7911e9d51bd277c6c3d73e070e05d1c", func := "trank/tranklaw09.StockTurned", spec := "stockTurned", plainKeys := false, apart := false }
def StockTurnedSaid : Prop := stockTurnedRow.holds Try.pinned (OpenSpec.ofChange stockTurnedSpec)

/-- ITS FALSE NEIGHBOUR: 'it returns false'. Refute it at one input. -/
def stockTurnedWrong : ChangeSpec := { name := "stockTurned", fn := fun _ => fun
  | [d1, d2, d3] => { results := [.lit (.bool false)], args := [d1, d2, d3] }
  | _ => none }
def StockTurnedWrongFalsely : Prop := stockTurnedRow.holds Try.pinned (OpenSpec.ofChange stockTurnedWrong)

/-- 'tranklaw09.StockFrames': WHATEVER THE INPUT: true; the input reads as it did. -/
def stockFramesSpec : ChangeSpec := { name := "stockFrames", fn := fun _ => fun
  | [d] => { results := [.lit (.bool true)], args := [d] }
  | _ => none }
def stockFramesRow : OpenClaim := { program := "ytabdnepfcohncaa", sum := "51aec87bdacfca080d03dae5514a5b08c7911e9d51bd277c6c3d73e070e05d1c", func := "trank/tranklaw09.StockFrames", spec := "stockFrames", unfollowed := true, recurses := true, plainKeys := false, apart := false }
def StockFramesSaid : Prop := stockFramesRow.holds Try.pinned (OpenSpec.ofChange stockFramesSpec)

/-- ITS FALSE NEIGHBOUR: 'it returns false'. Refute it at one input. -/
def stockFramesWrong : ChangeSpec := { name := "stockFrames", fn := fun _ => fun
  | [d] => { results := [.lit (.bool false)], args := [d] }
  | _ => none }
def StockFramesWrongFalsely : Prop := stockFramesRow.holds Try.pinned (OpenSpec.ofChange stockFramesWrong)

/-- 'tranklaw09.StockDisk': WHATEVER THE INPUT: true; the input reads as it did. -/
def stockDiskSpec : ChangeSpec := { name := "stockDisk", fn := fun _ => fun
  | [d1, d2] => { results := [.lit (.bool true)], args := [d1, d2] }
  | _ => none }
def stockDiskRow : OpenClaim := { program := "ytabdnepfcohncaa", sum := "51aec87bdacfca080d03dae5514a5b08c7911e9d51bd277c6c3d73e070e05d1c", func := "trank/tranklaw09.StockDisk", spec := "stockDisk", plainKeys := false, apart := false }
def StockDiskSaid : Prop := stockDiskRow.holds Try.pinned (OpenSpec.ofChange stockDiskSpec)

/-- ITS FALSE NEIGHBOUR: 'it returns false'. Refute it at one input. -/
def stockDiskWrong : ChangeSpec := { name := "stockDisk", fn := fun _ => fun
  | [d1, d2] => { results := [.lit (.bool false)], args := [d1, d2] }
  | _ => none }
def StockDiskWrongFalsely : Prop := stockDiskRow.holds Try.pinned (OpenSpec.ofChange stockDiskWrong)

/-- 'tranklaw09.StockApart': WHATEVER THE INPUT: true; the input reads as it did. -/
def stockApartSpec : ChangeSpec := { name := "stockApart", fn := fun _ => fun
  | [d1, d2, d3, d4, d5] => { results := [.lit (.bool true)], args := [d1, d2, d3, d4, d5] }
  | _ => none }
def stockApartRow : OpenClaim := { program := "ytabdnepfcohncaa", sum := "51aec87bdacfca080d03dae5514a5b08c7911e9d51bd277c6c3d73e070e05d1c", func := "trank/tranklaw09.StockApart", spec := "stockApart", unfollowed := true, recurses := true, plainKeys := false, apart := false }
def StockApartSaid : Prop := stockApartRow.holds Try.pinned (OpenSpec.ofChange stockApartSpec)

/-- ITS FALSE NEIGHBOUR: 'it returns false'. Refute it at one input. -/
def stockApartWrong : ChangeSpec := { name := "stockApart", fn := fun _ => fun
  | [d1, d2, d3, d4, d5] => { results := [.lit (.bool false)], args := [d1, d2, d3, d4, d5] }
  | _ => none }
def StockApartWrongFalsely : Prop := stockApartRow.holds Try.pinned (OpenSpec.ofChange stockApartWrong)

/-- 'tranklaw09.StockLoads': WHATEVER THE INPUT: true; the input reads as it did. -/
def stockLoadsSpec : ChangeSpec := { name := "stockLoads", fn := fun _ => fun
  | [d] => { results := [.lit (.bool true)], args := [d] }
  | _ => none }
def stockLoadsRow : OpenClaim := { program := "ytabdnepfcohncaa", sum := "51aec87bdacfca080d03dae5514a5b08c7911e9d51bd277c6c3d73e070e05d1c", func := "trank/tranklaw09.StockLoads", spec := "stockLoads", unfollowed := true, recurses := true, plainKeys := false, apart := false }
def StockLoadsSaid : Prop := stockLoadsRow.holds Try.pinned (OpenSpec.ofChange stockLoadsSpec)

/-- ITS FALSE NEIGHBOUR: 'it returns false'. Refute it at one input. -/
def stockLoadsWrong : ChangeSpec := { name := "stockLoads", fn := fun _ => fun
  | [d] => { results := [.lit (.bool false)], args := [d] }
  | _ => none }
def StockLoadsWrongFalsely : Prop := stockLoadsRow.holds Try.pinned (OpenSpec.ofChange stockLoadsWrong)

/-- 'tranklaw09.StockSerial': WHATEVER THE INPUT: true; the input reads as it did. -/
def stockSerialSpec : ChangeSpec := { name := "stockSerial", fn := fun _ => fun
  | [d] => { results := [.lit (.bool true)], args := [d] }
  | _ => none }
def stockSerialRow : OpenClaim := { program := "ytabdnepfcohncaa", sum := "51aec87bdacfca080d03dae5514a5b08c7911e9d51bd277c6c3d73e070e05d1c", func := "trank/tranklaw09.StockSerial", spec := "stockSerial", unfollowed := true, recurses := true, plainKeys := false, apart := false }
def StockSerialSaid : Prop := stockSerialRow.holds Try.pinned (OpenSpec.ofChange stockSerialSpec)

/-- ITS FALSE NEIGHBOUR: 'it returns false'. Refute it at one input. -/
def stockSerialWrong : ChangeSpec := { name := "stockSerial", fn := fun _ => fun
  | [d] => { results := [.lit (.bool false)], args := [d] }
  | _ => none }
def StockSerialWrongFalsely : Prop := stockSerialRow.holds Try.pinned (OpenSpec.ofChange stockSerialWrong)

/-- 'tranklaw09.StockDouble': WHATEVER THE INPUT: true; the input reads as it did. -/
def stockDoubleSpec : ChangeSpec := { name := "stockDouble", fn := fun _ => fun
  | [d] => { results := [.lit (.bool true)], args := [d] }
  | _ => none }
def stockDoubleRow : OpenClaim := { program := "ytabdnepfcohncaa", sum := "51aec87bdacfca080d03dae5514a5b08c7911e9d51bd277c6c3d73e070e05d1c", func := "trank/tranklaw09.StockDouble", spec := "stockDouble", unfollowed := true, recurses := true, plainKeys := false, apart := false }
def StockDoubleSaid : Prop := stockDoubleRow.holds Try.pinned (OpenSpec.ofChange stockDoubleSpec)

/-- ITS FALSE NEIGHBOUR: 'it returns false'. Refute it at one input. -/
def stockDoubleWrong : ChangeSpec := { name := "stockDouble", fn := fun _ => fun
  | [d] => { results := [.lit (.bool false)], args := [d] }
  | _ => none }
def StockDoubleWrongFalsely : Prop := stockDoubleRow.holds Try.pinned (OpenSpec.ofChange stockDoubleWrong)

/-- 'tranklaw09.StockSaves': WHATEVER THE INPUT: true; the input reads as it did. -/
def stockSavesSpec : ChangeSpec := { name := "stockSaves", fn := fun _ => fun
  | [d] => { results := [.lit (.bool true)], args := [d] }
  | _ => none }
def stockSavesRow : OpenClaim := { program := "ytabdnepfcohncaa", sum := "51aec87bdacfca080d03dae5514a5b08c7911e9d51bd277c6c3d73e070e05d1c", func := "trank/tranklaw09.StockSaves", spec := "stockSaves", unfollowed := true, recurses := true, plainKeys := false, apart := false }
def StockSavesSaid : Prop := stockSavesRow.holds Try.pinned (OpenSpec.ofChange stockSavesSpec)

/-- ITS FALSE NEIGHBOUR: 'it returns false'. Refute it at one input. -/
def stockSavesWrong : ChangeSpec := { name := "stockSaves", fn := fun _ => fun
  | [d] => { results := [.lit (.bool false)], args := [d] }
  | _ => none }
def StockSavesWrongFalsely : Prop := stockSavesRow.holds Try.pinned (OpenSpec.ofChange stockSavesWrong)

/-- 'tranklaw09.StockBook': WHATEVER THE INPUT: true; the input reads as it did. -/
def stockBookSpec : ChangeSpec := { name := "stockBook", fn := fun _ => fun
  | [d] => { results := [.lit (.bool true)], args := [d] }
  | _ => none }
def stockBookRow : OpenClaim := { program := "ytabdnepfcohncaa", sum := "51aec87bdacfca080d03dae5514a5b08c7911e9d51bd277c6c3d73e070e05d1c", func := "trank/tranklaw09.StockBook", spec := "stockBook", unfollowed := true, recurses := true, plainKeys := false, apart := false }
def StockBookSaid : Prop := stockBookRow.holds Try.pinned (OpenSpec.ofChange stockBookSpec)

/-- ITS FALSE NEIGHBOUR: 'it returns false'. Refute it at one input. -/
def stockBookWrong : ChangeSpec := { name := "stockBook", fn := fun _ => fun
  | [d] => { results := [.lit (.bool false)], args := [d] }
  | _ => none }
def StockBookWrongFalsely : Prop := stockBookRow.holds Try.pinned (OpenSpec.ofChange stockBookWrong)

/-- 'tranklaw09.StockAgain': WHATEVER THE INPUT: true; the input reads as it did. -/
def stockAgainSpec : ChangeSpec := { name := "stockAgain", fn := fun _ => fun
  | [d1, d2] => { results := [.lit (.bool true)], args := [d1, d2] }
  | _ => none }
def stockAgainRow : OpenClaim := { program := "ytabdnepfcohncaa", sum := "51aec87bdacfca080d03dae5514a5b08c7911e9d51bd277c6c3d73e070e05d1c", func := "trank/tranklaw09.StockAgain", spec := "stockAgain", unfollowed := true, recurses := true, plainKeys := false, apart := false }
def StockAgainSaid : Prop := stockAgainRow.holds Try.pinned (OpenSpec.ofChange stockAgainSpec)

/-- ITS FALSE NEIGHBOUR: 'it returns false'. Refute it at one input. -/
def stockAgainWrong : ChangeSpec := { name := "stockAgain", fn := fun _ => fun
  | [d1, d2] => { results := [.lit (.bool false)], args := [d1, d2] }
  | _ => none }
def StockAgainWrongFalsely : Prop := stockAgainRow.holds Try.pinned (OpenSpec.ofChange stockAgainWrong)

/-- 'tranklaw09.StockKept': WHATEVER THE INPUT: true; the input reads as it did. -/
def stockKeptSpec : ChangeSpec := { name := "stockKept", fn := fun _ => fun
  | [d1, d2] => { results := [.lit (.bool true)], args := [d1, d2] }
  | _ => none }
def stockKeptRow : OpenClaim := { program := "ytabdnepfcohncaa", sum := "51aec87bdacfca080d03dae5514a5b08c7911e9d51bd277c6c3d73e070e05d1c", func := "trank/tranklaw09.StockKept", spec := "stockKept", unfollowed := true, recurses := true, plainKeys := false, apart := false }
def StockKeptSaid : Prop := stockKeptRow.holds Try.pinned (OpenSpec.ofChange stockKeptSpec)

/-- ITS FALSE NEIGHBOUR: 'it returns false'. Refute it at one input. -/
def stockKeptWrong : ChangeSpec := { name := "stockKept", fn := fun _ => fun
  | [d1, d2] => { results := [.lit (.bool false)], args := [d1, d2] }
  | _ => none }
def StockKeptWrongFalsely : Prop := stockKeptRow.holds Try.pinned (OpenSpec.ofChange stockKeptWrong)

/-- 'tranklaw09.StockLogs': WHATEVER THE INPUT: true; the input reads as it did. -/
def stockLogsSpec : ChangeSpec := { name := "stockLogs", fn := fun _ => fun
  | [d1, d2] => { results := [.lit (.bool true)], args := [d1, d2] }
  | _ => none }
def stockLogsRow : OpenClaim := { program := "ytabdnepfcohncaa", sum := "51aec87bdacfca080d03dae5514a5b08c7911e9d51bd277c6c3d73e070e05d1c", func := "trank/tranklaw09.StockLogs", spec := "stockLogs", unfollowed := true, recurses := true, plainKeys := false, apart := false }
def StockLogsSaid : Prop := stockLogsRow.holds Try.pinned (OpenSpec.ofChange stockLogsSpec)

/-- ITS FALSE NEIGHBOUR: 'it returns false'. Refute it at one input. -/
def stockLogsWrong : ChangeSpec := { name := "stockLogs", fn := fun _ => fun
  | [d1, d2] => { results := [.lit (.bool false)], args := [d1, d2] }
  | _ => none }
def StockLogsWrongFalsely : Prop := stockLogsRow.holds Try.pinned (OpenSpec.ofChange stockLogsWrong)

/-- 'tranklaw09.StockNobody': WHATEVER THE INPUT: true; the input reads as it did. -/
def stockNobodySpec : ChangeSpec := { name := "stockNobody", fn := fun _ => fun
  | [d1, d2] => { results := [.lit (.bool true)], args := [d1, d2] }
  | _ => none }
def stockNobodyRow : OpenClaim := { program := "ytabdnepfcohncaa", sum := "51aec87bdacfca080d03dae5514a5b08c7911e9d51bd277c6c3d73e070e05d1c", func := "trank/tranklaw09.StockNobody", spec := "stockNobody", unfollowed := true, recurses := true, plainKeys := false, apart := false }
def StockNobodySaid : Prop := stockNobodyRow.holds Try.pinned (OpenSpec.ofChange stockNobodySpec)

/-- ITS FALSE NEIGHBOUR: 'it returns false'. Refute it at one input. -/
def stockNobodyWrong : ChangeSpec := { name := "stockNobody", fn := fun _ => fun
  | [d1, d2] => { results := [.lit (.bool false)], args := [d1, d2] }
  | _ => none }
def StockNobodyWrongFalsely : Prop := stockNobodyRow.holds Try.pinned (OpenSpec.ofChange stockNobodyWrong)

/- THE SECOND FORM. 'bulk': how many values and letters a reading holds, each counted each time it is reached (what is shared counts as often as it is met; a slice's spare places count too). A statement '..UptoSaid' is the law's where the arguments, and the package variables that the reading takes, are together of bulk at most 1048576: NARROWER than '..Said'. Prove '..Said' where nothing that the law and all that it calls make is longer than what came in: it says more and counts as full. Else prove '..UptoSaid'. A law counts once. -/
mutual
def uptoBulk {H : Type} : DataW H → Nat
  | .lit (.string bytes) => bytes.length + 1
  | .lit _ => 1
  | .nil => 1
  | .ptr d => uptoBulk d + 1
  | .slice elems spare => uptoBulkAll elems + uptoBulkAll spare + 1
  | .agg parts => uptoBulkAll parts + 1
  | .iface _ d => uptoBulk d + 1
  | .map entries => uptoBulkEntries entries + 1
  | .held _ => 1
def uptoBulkAll {H : Type} : List (DataW H) → Nat
  | [] => 0
  | d :: r => uptoBulk d + uptoBulkAll r
def uptoBulkEntries {H : Type} : List (Lit × DataW H) → Nat
  | [] => 0
  | x :: r => uptoBulkEntry x + uptoBulkEntries r
def uptoBulkEntry {H : Type} : Lit × DataW H → Nat
  | (.string bytes, d) => bytes.length + uptoBulk d + 1
  | (_, d) => uptoBulk d + 1
 end
def uptoSmall : (H : Type) → List (DataW H) → Bool := fun _ ds => decide (uptoBulkAll ds ≤ 1048576)
def OpenSpec.upto (s : _root_.Go.ChangeSpec) : _root_.Go.OpenSpec := { _root_.Go.OpenSpec.ofChange s with cond := some uptoSmall }

/-- 'tranklaw09.StockTurned', WHERE WHAT IT READS IS OF BULK AT MOST 1048576: true; the input reads as it did. -/
def stockTurnedUptoRow : OpenClaim := { program := "ytabdnepfcohncaa", sum := "51aec87bdacfca080d03dae5514a5b08c7911e9d51bd277c6c3d73e070e05d1c", func := "trank/tranklaw09.StockTurned", spec := "stockTurned", plainKeys := false, apart := false, narrowed := true }
def StockTurnedUptoSaid : Prop := stockTurnedUptoRow.holds Try.pinned (OpenSpec.upto stockTurnedSpec)

/-- 'tranklaw09.StockFrames', WHERE WHAT IT READS IS OF BULK AT MOST 1048576: true; the input reads as it did. -/
def stockFramesUptoRow : OpenClaim := { program := "ytabdnepfcohncaa", sum := "51aec87bdacfca080d03dae5514a5b08c7911e9d51bd277c6c3d73e070e05d1c", func := "trank/tranklaw09.StockFrames", spec := "stockFrames", unfollowed := true, recurses := true, plainKeys := false, apart := false, narrowed := true }
def StockFramesUptoSaid : Prop := stockFramesUptoRow.holds Try.pinned (OpenSpec.upto stockFramesSpec)

/-- 'tranklaw09.StockDisk', WHERE WHAT IT READS IS OF BULK AT MOST 1048576: true; the input reads as it did. -/
def stockDiskUptoRow : OpenClaim := { program := "ytabdnepfcohncaa", sum := "51aec87bdacfca080d03dae5514a5b08c7911e9d51bd277c6c3d73e070e05d1c", func := "trank/tranklaw09.StockDisk", spec := "stockDisk", plainKeys := false, apart := false, narrowed := true }
def StockDiskUptoSaid : Prop := stockDiskUptoRow.holds Try.pinned (OpenSpec.upto stockDiskSpec)

/-- 'tranklaw09.StockApart', WHERE WHAT IT READS IS OF BULK AT MOST 1048576: true; the input reads as it did. -/
def stockApartUptoRow : OpenClaim := { program := "ytabdnepfcohncaa", sum := "51aec87bdacfca080d03dae5514a5b08c7911e9d51bd277c6c3d73e070e05d1c", func := "trank/tranklaw09.StockApart", spec := "stockApart", unfollowed := true, recurses := true, plainKeys := false, apart := false, narrowed := true }
def StockApartUptoSaid : Prop := stockApartUptoRow.holds Try.pinned (OpenSpec.upto stockApartSpec)

/-- 'tranklaw09.StockLoads', WHERE WHAT IT READS IS OF BULK AT MOST 1048576: true; the input reads as it did. -/
def stockLoadsUptoRow : OpenClaim := { program := "ytabdnepfcohncaa", sum := "51aec87bdacfca080d03dae5514a5b08c7911e9d51bd277c6c3d73e070e05d1c", func := "trank/tranklaw09.StockLoads", spec := "stockLoads", unfollowed := true, recurses := true, plainKeys := false, apart := false, narrowed := true }
def StockLoadsUptoSaid : Prop := stockLoadsUptoRow.holds Try.pinned (OpenSpec.upto stockLoadsSpec)

/-- 'tranklaw09.StockSerial', WHERE WHAT IT READS IS OF BULK AT MOST 1048576: true; the input reads as it did. -/
def stockSerialUptoRow : OpenClaim := { program := "ytabdnepfcohncaa", sum := "51aec87bdacfca080d03dae5514a5b08c7911e9d51bd277c6c3d73e070e05d1c", func := "trank/tranklaw09.StockSerial", spec := "stockSerial", unfollowed := true, recurses := true, plainKeys := false, apart := false, narrowed := true }
def StockSerialUptoSaid : Prop := stockSerialUptoRow.holds Try.pinned (OpenSpec.upto stockSerialSpec)

/-- 'tranklaw09.StockDouble', WHERE WHAT IT READS IS OF BULK AT MOST 1048576: true; the input reads as it did. -/
def stockDoubleUptoRow : OpenClaim := { program := "ytabdnepfcohncaa", sum := "51aec87bdacfca080d03dae5514a5b08c7911e9d51bd277c6c3d73e070e05d1c", func := "trank/tranklaw09.StockDouble", spec := "stockDouble", unfollowed := true, recurses := true, plainKeys := false, apart := false, narrowed := true }
def StockDoubleUptoSaid : Prop := stockDoubleUptoRow.holds Try.pinned (OpenSpec.upto stockDoubleSpec)

/-- 'tranklaw09.StockSaves', WHERE WHAT IT READS IS OF BULK AT MOST 1048576: true; the input reads as it did. -/
def stockSavesUptoRow : OpenClaim := { program := "ytabdnepfcohncaa", sum := "51aec87bdacfca080d03dae5514a5b08c7911e9d51bd277c6c3d73e070e05d1c", func := "trank/tranklaw09.StockSaves", spec := "stockSaves", unfollowed := true, recurses := true, plainKeys := false, apart := false, narrowed := true }
def StockSavesUptoSaid : Prop := stockSavesUptoRow.holds Try.pinned (OpenSpec.upto stockSavesSpec)

/-- 'tranklaw09.StockBook', WHERE WHAT IT READS IS OF BULK AT MOST 1048576: true; the input reads as it did. -/
def stockBookUptoRow : OpenClaim := { program := "ytabdnepfcohncaa", sum := "51aec87bdacfca080d03dae5514a5b08c7911e9d51bd277c6c3d73e070e05d1c", func := "trank/tranklaw09.StockBook", spec := "stockBook", unfollowed := true, recurses := true, plainKeys := false, apart := false, narrowed := true }
def StockBookUptoSaid : Prop := stockBookUptoRow.holds Try.pinned (OpenSpec.upto stockBookSpec)

/-- 'tranklaw09.StockAgain', WHERE WHAT IT READS IS OF BULK AT MOST 1048576: true; the input reads as it did. -/
def stockAgainUptoRow : OpenClaim := { program := "ytabdnepfcohncaa", sum := "51aec87bdacfca080d03dae5514a5b08c7911e9d51bd277c6c3d73e070e05d1c", func := "trank/tranklaw09.StockAgain", spec := "stockAgain", unfollowed := true, recurses := true, plainKeys := false, apart := false, narrowed := true }
def StockAgainUptoSaid : Prop := stockAgainUptoRow.holds Try.pinned (OpenSpec.upto stockAgainSpec)

/-- 'tranklaw09.StockKept', WHERE WHAT IT READS IS OF BULK AT MOST 1048576: true; the input reads as it did. -/
def stockKeptUptoRow : OpenClaim := { program := "ytabdnepfcohncaa", sum := "51aec87bdacfca080d03dae5514a5b08c7911e9d51bd277c6c3d73e070e05d1c", func := "trank/tranklaw09.StockKept", spec := "stockKept", unfollowed := true, recurses := true, plainKeys := false, apart := false, narrowed := true }
def StockKeptUptoSaid : Prop := stockKeptUptoRow.holds Try.pinned (OpenSpec.upto stockKeptSpec)

/-- 'tranklaw09.StockLogs', WHERE WHAT IT READS IS OF BULK AT MOST 1048576: true; the input reads as it did. -/
def stockLogsUptoRow : OpenClaim := { program := "ytabdnepfcohncaa", sum := "51aec87bdacfca080d03dae5514a5b08c7911e9d51bd277c6c3d73e070e05d1c", func := "trank/tranklaw09.StockLogs", spec := "stockLogs", unfollowed := true, recurses := true, plainKeys := false, apart := false, narrowed := true }
def StockLogsUptoSaid : Prop := stockLogsUptoRow.holds Try.pinned (OpenSpec.upto stockLogsSpec)

/-- 'tranklaw09.StockNobody', WHERE WHAT IT READS IS OF BULK AT MOST 1048576: true; the input reads as it did. -/
def stockNobodyUptoRow : OpenClaim := { program := "ytabdnepfcohncaa", sum := "51aec87bdacfca080d03dae5514a5b08c7911e9d51bd277c6c3d73e070e05d1c", func := "trank/tranklaw09.StockNobody", spec := "stockNobody", unfollowed := true, recurses := true, plainKeys := false, apart := false, narrowed := true }
def StockNobodyUptoSaid : Prop := stockNobodyUptoRow.holds Try.pinned (OpenSpec.upto stockNobodySpec)

end Rows
end Go.Proofs.Ytabdnepfcohncaa
