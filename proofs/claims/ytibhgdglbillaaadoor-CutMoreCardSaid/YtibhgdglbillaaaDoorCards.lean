/-
  DERIVED. GIVEN WITH THE SEED: THE CARDS: each row of YtibhgdglbillaaaDoorRows.lean that lists a variable, with what it lists TIED to the program's text (the seventh form; the later family's looks); each row that meets fmt, with fmt's text TOLD by the authors' own Lean function (tested against real Go, not proved from fmt's source: count such statements apart). THE CARD IS WHAT COUNTS. Prove the row's statement (the work); the ties are given (YtibhgdglbillaaaDoorTie.lean); close each card by the builder's one call (the guide's Derived/Test/ToyasCard.lean, 'card_holds'). Laid BY PROGRAM, IN A SANDBOX (cutbox-door.mjs). By AI agents, Wed Nov 11 2026. No macro, syntax, notation, axiom, sorry.
-/
import Derived.Test.YtibhgdglbillaaaDoorRows
import GoSem.ClaimSeven
namespace Go.Proofs.YtibhgdglbillaaaDoor
namespace Rows

/-- THE TIED CARD OF 'tranklaw05.CutRects'. -/
def cutRectsCard : Claim7 := { stood := { row := cutRectsRow, standIns := [], harness := (true, "4115b7fd5c27074ea4c23e5a377720e7dcbaf9b5819babc777c174c33f6f24c8"), looks := false }, kinds := [], alts := [], laidByText := true, laidKinds := [.data, .pinned], laidTests := true, laidLooks := .later }
def CutRectsCardSaid : Prop := Claim7.holds Tryd.pinned (.plain (OpenSpec.ofChange cutRectsSpec)) cutRectsCard

/-- THE TIED CARD OF 'tranklaw05.CutMore'. -/
def cutMoreCard : Claim7 := { stood := { row := cutMoreRow, standIns := [], harness := (true, "4115b7fd5c27074ea4c23e5a377720e7dcbaf9b5819babc777c174c33f6f24c8"), looks := false }, kinds := [], alts := [], laidByText := true, laidKinds := [.data, .pinned], laidTests := true, laidLooks := .later }
def CutMoreCardSaid : Prop := Claim7.holds Tryd.pinned (.plain (OpenSpec.ofChange cutMoreSpec)) cutMoreCard

/-- THE TIED CARD OF 'tranklaw05.CutStrict'. -/
def cutStrictCard : Claim7 := { stood := { row := cutStrictRow, standIns := [], harness := (true, "4115b7fd5c27074ea4c23e5a377720e7dcbaf9b5819babc777c174c33f6f24c8"), looks := false }, kinds := [], alts := [], laidByText := true, laidKinds := [.data, .pinned], laidTests := true, laidLooks := .later }
def CutStrictCardSaid : Prop := Claim7.holds Tryd.pinned (.plain (OpenSpec.ofChange cutStrictSpec)) cutStrictCard

/-- THE TIED CARD OF 'tranklaw05.CutTurns'. -/
def cutTurnsCard : Claim7 := { stood := { row := cutTurnsRow, standIns := [], harness := (true, "4115b7fd5c27074ea4c23e5a377720e7dcbaf9b5819babc777c174c33f6f24c8"), looks := false }, kinds := [], alts := [], laidByText := true, laidKinds := [.data, .pinned], laidTests := true, laidLooks := .later }
def CutTurnsCardSaid : Prop := Claim7.holds Tryd.pinned (.plain (OpenSpec.ofChange cutTurnsSpec)) cutTurnsCard

/-- THE TIED CARD OF 'tranklaw05.CutChecks'. -/
def cutChecksCard : Claim7 := { stood := { row := cutChecksRow, standIns := [], harness := (true, "4115b7fd5c27074ea4c23e5a377720e7dcbaf9b5819babc777c174c33f6f24c8"), looks := false }, kinds := [], alts := [], laidByText := true, laidKinds := [.data, .pinned], laidTests := true, laidLooks := .later }
def CutChecksCardSaid : Prop := Claim7.holds Tryd.pinned (.plain (OpenSpec.ofChange cutChecksSpec)) cutChecksCard

/-- THE TIED CARD OF 'tranklaw05.CutProves'. -/
def cutProvesCard : Claim7 := { stood := { row := cutProvesRow, standIns := [], harness := (true, "4115b7fd5c27074ea4c23e5a377720e7dcbaf9b5819babc777c174c33f6f24c8"), looks := false }, kinds := [], alts := [], laidByText := true, laidKinds := [.data, .pinned], laidTests := true, laidLooks := .later }
def CutProvesCardSaid : Prop := Claim7.holds Tryd.pinned (.plain (OpenSpec.ofChange cutProvesSpec)) cutProvesCard

/-- THE TIED CARD OF 'tranklaw05.CutBest'. -/
def cutBestCard : Claim7 := { stood := { row := cutBestRow, standIns := [], harness := (true, "4115b7fd5c27074ea4c23e5a377720e7dcbaf9b5819babc777c174c33f6f24c8"), looks := false }, kinds := [], alts := [], laidByText := true, laidKinds := [.data, .pinned], laidTests := true, laidLooks := .later }
def CutBestCardSaid : Prop := Claim7.holds Tryd.pinned (.plain (OpenSpec.ofChange cutBestSpec)) cutBestCard

/-- THE TIED CARD OF 'tranklaw05.CutFill'. -/
def cutFillCard : Claim7 := { stood := { row := cutFillRow, standIns := [], harness := (true, "4115b7fd5c27074ea4c23e5a377720e7dcbaf9b5819babc777c174c33f6f24c8"), looks := false }, kinds := [], alts := [], laidByText := true, laidKinds := [.data, .pinned], laidTests := true, laidLooks := .later }
def CutFillCardSaid : Prop := Claim7.holds Tryd.pinned (.plain (OpenSpec.ofChange cutFillSpec)) cutFillCard

/-- THE TIED CARD OF 'tranklaw05.CutBounds'. -/
def cutBoundsCard : Claim7 := { stood := { row := cutBoundsRow, standIns := [], harness := (true, "4115b7fd5c27074ea4c23e5a377720e7dcbaf9b5819babc777c174c33f6f24c8"), looks := false }, kinds := [], alts := [], laidByText := true, laidKinds := [.data, .pinned], laidTests := true, laidLooks := .later }
def CutBoundsCardSaid : Prop := Claim7.holds Tryd.pinned (.plain (OpenSpec.ofChange cutBoundsSpec)) cutBoundsCard

/-- THE TIED CARD OF 'tranklaw05.CutBins'. -/
def cutBinsCard : Claim7 := { stood := { row := cutBinsRow, standIns := [], harness := (true, "4115b7fd5c27074ea4c23e5a377720e7dcbaf9b5819babc777c174c33f6f24c8"), looks := false }, kinds := [], alts := [], laidByText := true, laidKinds := [.data, .pinned], laidTests := true, laidLooks := .later }
def CutBinsCardSaid : Prop := Claim7.holds Tryd.pinned (.plain (OpenSpec.ofChange cutBinsSpec)) cutBinsCard

/-- THE TIED CARD OF 'tranklaw05.CutReads'. -/
def cutReadsCard : Claim7 := { stood := { row := cutReadsRow, standIns := [], harness := (true, "4115b7fd5c27074ea4c23e5a377720e7dcbaf9b5819babc777c174c33f6f24c8"), looks := false }, kinds := [], alts := [], laidByText := true, laidKinds := [.data, .pinned], laidTests := true, laidLooks := .later }
def CutReadsCardSaid : Prop := Claim7.holds Tryd.pinned (.plain (OpenSpec.ofChange cutReadsSpec)) cutReadsCard

/-- THE TIED CARD OF 'tranklaw05.CutPlans'. -/
def cutPlansCard : Claim7 := { stood := { row := cutPlansRow, standIns := [], harness := (true, "4115b7fd5c27074ea4c23e5a377720e7dcbaf9b5819babc777c174c33f6f24c8"), looks := false }, kinds := [], alts := [], laidByText := true, laidKinds := [.data, .pinned], laidTests := true, laidLooks := .later }
def CutPlansCardSaid : Prop := Claim7.holds Tryd.pinned (.plain (OpenSpec.ofChange cutPlansSpec)) cutPlansCard

/-- THE TIED CARD OF 'tranklaw05.CutFits'. -/
def cutFitsCard : Claim7 := { stood := { row := cutFitsRow, standIns := [], harness := (true, "4115b7fd5c27074ea4c23e5a377720e7dcbaf9b5819babc777c174c33f6f24c8"), looks := false }, kinds := [], alts := [], laidByText := true, laidKinds := [.data, .pinned], laidTests := true, laidLooks := .later }
def CutFitsCardSaid : Prop := Claim7.holds Tryd.pinned (.plain (OpenSpec.ofChange cutFitsSpec)) cutFitsCard

/-- THE TIED CARD OF 'tranklaw05.CutStrips'. -/
def cutStripsCard : Claim7 := { stood := { row := cutStripsRow, standIns := [], harness := (true, "4115b7fd5c27074ea4c23e5a377720e7dcbaf9b5819babc777c174c33f6f24c8"), looks := false }, kinds := [], alts := [], laidByText := true, laidKinds := [.data, .pinned], laidTests := true, laidLooks := .later }
def CutStripsCardSaid : Prop := Claim7.holds Tryd.pinned (.plain (OpenSpec.ofChange cutStripsSpec)) cutStripsCard

/-- THE SECOND FORM's CARD OF 'tranklaw05.CutRects'. -/
def cutRectsUptoCard : Claim7 := { stood := { row := cutRectsUptoRow, standIns := [], harness := (true, "4115b7fd5c27074ea4c23e5a377720e7dcbaf9b5819babc777c174c33f6f24c8"), looks := false }, kinds := [], alts := [], laidByText := true, laidKinds := [.data, .pinned], laidTests := true, laidLooks := .later }
def CutRectsUptoCardSaid : Prop := Claim7.holds Tryd.pinned (.plain (OpenSpec.upto cutRectsSpec)) cutRectsUptoCard

/-- THE SECOND FORM's CARD OF 'tranklaw05.CutMore'. -/
def cutMoreUptoCard : Claim7 := { stood := { row := cutMoreUptoRow, standIns := [], harness := (true, "4115b7fd5c27074ea4c23e5a377720e7dcbaf9b5819babc777c174c33f6f24c8"), looks := false }, kinds := [], alts := [], laidByText := true, laidKinds := [.data, .pinned], laidTests := true, laidLooks := .later }
def CutMoreUptoCardSaid : Prop := Claim7.holds Tryd.pinned (.plain (OpenSpec.upto cutMoreSpec)) cutMoreUptoCard

/-- THE SECOND FORM's CARD OF 'tranklaw05.CutStrict'. -/
def cutStrictUptoCard : Claim7 := { stood := { row := cutStrictUptoRow, standIns := [], harness := (true, "4115b7fd5c27074ea4c23e5a377720e7dcbaf9b5819babc777c174c33f6f24c8"), looks := false }, kinds := [], alts := [], laidByText := true, laidKinds := [.data, .pinned], laidTests := true, laidLooks := .later }
def CutStrictUptoCardSaid : Prop := Claim7.holds Tryd.pinned (.plain (OpenSpec.upto cutStrictSpec)) cutStrictUptoCard

/-- THE SECOND FORM's CARD OF 'tranklaw05.CutTurns'. -/
def cutTurnsUptoCard : Claim7 := { stood := { row := cutTurnsUptoRow, standIns := [], harness := (true, "4115b7fd5c27074ea4c23e5a377720e7dcbaf9b5819babc777c174c33f6f24c8"), looks := false }, kinds := [], alts := [], laidByText := true, laidKinds := [.data, .pinned], laidTests := true, laidLooks := .later }
def CutTurnsUptoCardSaid : Prop := Claim7.holds Tryd.pinned (.plain (OpenSpec.upto cutTurnsSpec)) cutTurnsUptoCard

/-- THE SECOND FORM's CARD OF 'tranklaw05.CutChecks'. -/
def cutChecksUptoCard : Claim7 := { stood := { row := cutChecksUptoRow, standIns := [], harness := (true, "4115b7fd5c27074ea4c23e5a377720e7dcbaf9b5819babc777c174c33f6f24c8"), looks := false }, kinds := [], alts := [], laidByText := true, laidKinds := [.data, .pinned], laidTests := true, laidLooks := .later }
def CutChecksUptoCardSaid : Prop := Claim7.holds Tryd.pinned (.plain (OpenSpec.upto cutChecksSpec)) cutChecksUptoCard

/-- THE SECOND FORM's CARD OF 'tranklaw05.CutProves'. -/
def cutProvesUptoCard : Claim7 := { stood := { row := cutProvesUptoRow, standIns := [], harness := (true, "4115b7fd5c27074ea4c23e5a377720e7dcbaf9b5819babc777c174c33f6f24c8"), looks := false }, kinds := [], alts := [], laidByText := true, laidKinds := [.data, .pinned], laidTests := true, laidLooks := .later }
def CutProvesUptoCardSaid : Prop := Claim7.holds Tryd.pinned (.plain (OpenSpec.upto cutProvesSpec)) cutProvesUptoCard

/-- THE SECOND FORM's CARD OF 'tranklaw05.CutBest'. -/
def cutBestUptoCard : Claim7 := { stood := { row := cutBestUptoRow, standIns := [], harness := (true, "4115b7fd5c27074ea4c23e5a377720e7dcbaf9b5819babc777c174c33f6f24c8"), looks := false }, kinds := [], alts := [], laidByText := true, laidKinds := [.data, .pinned], laidTests := true, laidLooks := .later }
def CutBestUptoCardSaid : Prop := Claim7.holds Tryd.pinned (.plain (OpenSpec.upto cutBestSpec)) cutBestUptoCard

/-- THE SECOND FORM's CARD OF 'tranklaw05.CutFill'. -/
def cutFillUptoCard : Claim7 := { stood := { row := cutFillUptoRow, standIns := [], harness := (true, "4115b7fd5c27074ea4c23e5a377720e7dcbaf9b5819babc777c174c33f6f24c8"), looks := false }, kinds := [], alts := [], laidByText := true, laidKinds := [.data, .pinned], laidTests := true, laidLooks := .later }
def CutFillUptoCardSaid : Prop := Claim7.holds Tryd.pinned (.plain (OpenSpec.upto cutFillSpec)) cutFillUptoCard

/-- THE SECOND FORM's CARD OF 'tranklaw05.CutBounds'. -/
def cutBoundsUptoCard : Claim7 := { stood := { row := cutBoundsUptoRow, standIns := [], harness := (true, "4115b7fd5c27074ea4c23e5a377720e7dcbaf9b5819babc777c174c33f6f24c8"), looks := false }, kinds := [], alts := [], laidByText := true, laidKinds := [.data, .pinned], laidTests := true, laidLooks := .later }
def CutBoundsUptoCardSaid : Prop := Claim7.holds Tryd.pinned (.plain (OpenSpec.upto cutBoundsSpec)) cutBoundsUptoCard

/-- THE SECOND FORM's CARD OF 'tranklaw05.CutBins'. -/
def cutBinsUptoCard : Claim7 := { stood := { row := cutBinsUptoRow, standIns := [], harness := (true, "4115b7fd5c27074ea4c23e5a377720e7dcbaf9b5819babc777c174c33f6f24c8"), looks := false }, kinds := [], alts := [], laidByText := true, laidKinds := [.data, .pinned], laidTests := true, laidLooks := .later }
def CutBinsUptoCardSaid : Prop := Claim7.holds Tryd.pinned (.plain (OpenSpec.upto cutBinsSpec)) cutBinsUptoCard

/-- THE SECOND FORM's CARD OF 'tranklaw05.CutReads'. -/
def cutReadsUptoCard : Claim7 := { stood := { row := cutReadsUptoRow, standIns := [], harness := (true, "4115b7fd5c27074ea4c23e5a377720e7dcbaf9b5819babc777c174c33f6f24c8"), looks := false }, kinds := [], alts := [], laidByText := true, laidKinds := [.data, .pinned], laidTests := true, laidLooks := .later }
def CutReadsUptoCardSaid : Prop := Claim7.holds Tryd.pinned (.plain (OpenSpec.upto cutReadsSpec)) cutReadsUptoCard

/-- THE SECOND FORM's CARD OF 'tranklaw05.CutPlans'. -/
def cutPlansUptoCard : Claim7 := { stood := { row := cutPlansUptoRow, standIns := [], harness := (true, "4115b7fd5c27074ea4c23e5a377720e7dcbaf9b5819babc777c174c33f6f24c8"), looks := false }, kinds := [], alts := [], laidByText := true, laidKinds := [.data, .pinned], laidTests := true, laidLooks := .later }
def CutPlansUptoCardSaid : Prop := Claim7.holds Tryd.pinned (.plain (OpenSpec.upto cutPlansSpec)) cutPlansUptoCard

/-- THE SECOND FORM's CARD OF 'tranklaw05.CutFits'. -/
def cutFitsUptoCard : Claim7 := { stood := { row := cutFitsUptoRow, standIns := [], harness := (true, "4115b7fd5c27074ea4c23e5a377720e7dcbaf9b5819babc777c174c33f6f24c8"), looks := false }, kinds := [], alts := [], laidByText := true, laidKinds := [.data, .pinned], laidTests := true, laidLooks := .later }
def CutFitsUptoCardSaid : Prop := Claim7.holds Tryd.pinned (.plain (OpenSpec.upto cutFitsSpec)) cutFitsUptoCard

/-- THE SECOND FORM's CARD OF 'tranklaw05.CutStrips'. -/
def cutStripsUptoCard : Claim7 := { stood := { row := cutStripsUptoRow, standIns := [], harness := (true, "4115b7fd5c27074ea4c23e5a377720e7dcbaf9b5819babc777c174c33f6f24c8"), looks := false }, kinds := [], alts := [], laidByText := true, laidKinds := [.data, .pinned], laidTests := true, laidLooks := .later }
def CutStripsUptoCardSaid : Prop := Claim7.holds Tryd.pinned (.plain (OpenSpec.upto cutStripsSpec)) cutStripsUptoCard
end Rows
end Go.Proofs.YtibhgdglbillaaaDoor
