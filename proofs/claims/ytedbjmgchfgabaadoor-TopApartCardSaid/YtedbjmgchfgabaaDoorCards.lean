/-
  DERIVED. GIVEN WITH THE SEED: THE CARDS: each row of YtedbjmgchfgabaaDoorRows.lean that lists a variable, with what it lists TIED to the program's text (the seventh form; the later family's looks); each row that meets fmt, with fmt's text TOLD by the authors' own Lean function (tested against real Go, not proved from fmt's source: count such statements apart). THE CARD IS WHAT COUNTS. Prove the row's statement (the work); the ties are given (YtedbjmgchfgabaaDoorTie.lean); close each card by the builder's one call (the guide's Derived/Test/ToyasCard.lean, 'card_holds'). Laid BY PROGRAM, IN A SANDBOX (cutbox-door.mjs). By AI agents, Wed Nov 11 2026. No macro, syntax, notation, axiom, sorry.
-/
import Derived.Test.YtedbjmgchfgabaaDoorRows
import GoSem.ClaimSeven
namespace Go.Proofs.YtedbjmgchfgabaaDoor
namespace Rows

/-- THE TIED CARD OF 'tranktop.TopTurned'. -/
def topTurnedCard : Claim7 := { stood := { row := topTurnedRow, standIns := [], harness := (true, "5bd2936e75214ae4b8c724b16c05dddd1c11faef99045b6b87462b5851995460"), looks := false }, kinds := [], alts := [], laidByText := true, laidKinds := [.data, .pinned], laidTests := true, laidLooks := .later }
def TopTurnedCardSaid : Prop := Claim7.holds Tryd.pinned (.plain (OpenSpec.ofChange topTurnedSpec)) topTurnedCard

/-- THE TIED CARD OF 'tranktop.TopApart'. -/
def topApartCard : Claim7 := { stood := { row := topApartRow, standIns := [], harness := (true, "5bd2936e75214ae4b8c724b16c05dddd1c11faef99045b6b87462b5851995460"), looks := false }, kinds := [], alts := [], laidByText := true, laidKinds := [.data, .pinned], laidTests := true, laidLooks := .later }
def TopApartCardSaid : Prop := Claim7.holds Tryd.pinned (.plain (OpenSpec.ofChange topApartSpec)) topApartCard

/-- THE TIED CARD OF 'tranktop.TopCertified'. -/
def topCertifiedCard : Claim7 := { stood := { row := topCertifiedRow, standIns := [], harness := (true, "5bd2936e75214ae4b8c724b16c05dddd1c11faef99045b6b87462b5851995460"), looks := false }, kinds := [], alts := [], laidByText := true, laidKinds := [.data, .data, .data, .data, .pinned], laidTests := true, laidLooks := .later }
def TopCertifiedCardSaid : Prop := Claim7.holds Tryd.pinned (.plain (OpenSpec.ofChange topCertifiedSpec)) topCertifiedCard

/-- THE TIED CARD OF 'tranktop.TopQueue'. -/
def topQueueCard : Claim7 := { stood := { row := topQueueRow, standIns := [], harness := (true, "5bd2936e75214ae4b8c724b16c05dddd1c11faef99045b6b87462b5851995460"), looks := false }, kinds := [], alts := [], laidByText := true, laidKinds := [.data, .pinned], laidTests := true, laidLooks := .later }
def TopQueueCardSaid : Prop := Claim7.holds Tryd.pinned (.plain (OpenSpec.ofChange topQueueSpec)) topQueueCard

/-- THE SECOND FORM's CARD OF 'tranktop.TopTurned'. -/
def topTurnedUptoCard : Claim7 := { stood := { row := topTurnedUptoRow, standIns := [], harness := (true, "5bd2936e75214ae4b8c724b16c05dddd1c11faef99045b6b87462b5851995460"), looks := false }, kinds := [], alts := [], laidByText := true, laidKinds := [.data, .pinned], laidTests := true, laidLooks := .later }
def TopTurnedUptoCardSaid : Prop := Claim7.holds Tryd.pinned (.plain (OpenSpec.upto topTurnedSpec)) topTurnedUptoCard

/-- THE SECOND FORM's CARD OF 'tranktop.TopApart'. -/
def topApartUptoCard : Claim7 := { stood := { row := topApartUptoRow, standIns := [], harness := (true, "5bd2936e75214ae4b8c724b16c05dddd1c11faef99045b6b87462b5851995460"), looks := false }, kinds := [], alts := [], laidByText := true, laidKinds := [.data, .pinned], laidTests := true, laidLooks := .later }
def TopApartUptoCardSaid : Prop := Claim7.holds Tryd.pinned (.plain (OpenSpec.upto topApartSpec)) topApartUptoCard

/-- THE SECOND FORM's CARD OF 'tranktop.TopCertified'. -/
def topCertifiedUptoCard : Claim7 := { stood := { row := topCertifiedUptoRow, standIns := [], harness := (true, "5bd2936e75214ae4b8c724b16c05dddd1c11faef99045b6b87462b5851995460"), looks := false }, kinds := [], alts := [], laidByText := true, laidKinds := [.data, .data, .data, .data, .pinned], laidTests := true, laidLooks := .later }
def TopCertifiedUptoCardSaid : Prop := Claim7.holds Tryd.pinned (.plain (OpenSpec.upto topCertifiedSpec)) topCertifiedUptoCard

/-- THE SECOND FORM's CARD OF 'tranktop.TopQueue'. -/
def topQueueUptoCard : Claim7 := { stood := { row := topQueueUptoRow, standIns := [], harness := (true, "5bd2936e75214ae4b8c724b16c05dddd1c11faef99045b6b87462b5851995460"), looks := false }, kinds := [], alts := [], laidByText := true, laidKinds := [.data, .pinned], laidTests := true, laidLooks := .later }
def TopQueueUptoCardSaid : Prop := Claim7.holds Tryd.pinned (.plain (OpenSpec.upto topQueueSpec)) topQueueUptoCard
end Rows
end Go.Proofs.YtedbjmgchfgabaaDoor
