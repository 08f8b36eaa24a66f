/-
  DERIVED. GIVEN WITH THE SEED: THE CARDS: each row of YtoekecopfmohiaaDoorRows.lean that lists a variable, with what it lists TIED to the program's text (the seventh form; the later family's looks); each row that meets fmt, with fmt's text TOLD by the authors' own Lean function (tested against real Go, not proved from fmt's source: count such statements apart). THE CARD IS WHAT COUNTS. Prove the row's statement (the work); the ties are given (YtoekecopfmohiaaDoorTie.lean); close each card by the builder's one call (the guide's Derived/Test/ToyasCard.lean, 'card_holds'). Laid BY PROGRAM, IN A SANDBOX (cutbox-door.mjs). By AI agents, Wed Nov 11 2026. No macro, syntax, notation, axiom, sorry.
-/
import Derived.Test.YtoekecopfmohiaaDoorRows
import GoSem.ClaimSeven
namespace Go.Proofs.YtoekecopfmohiaaDoor
namespace Rows

/-- THE TIED CARD OF 'sutlerlaw11.FlateShort'. -/
def flateShortCard : Claim7 := { stood := { row := flateShortRow, standIns := [], harness := (true, "22ecccb90baaa50e905c3abf4c4133f9efb25758116ecc8107423be5ba86d053"), looks := false }, kinds := [], alts := [], laidByText := true, laidKinds := [.data, .data, .widerDeep], laidTests := true, laidLooks := .later }
def FlateShortCardSaid : Prop := Claim7.holds Tryd.pinned (.plain (OpenSpec.ofChange flateShortSpec)) flateShortCard

/-- THE TIED CARD OF 'sutlerlaw11.FlateBounds'. -/
def flateBoundsCard : Claim7 := { stood := { row := flateBoundsRow, standIns := [], harness := (true, "22ecccb90baaa50e905c3abf4c4133f9efb25758116ecc8107423be5ba86d053"), looks := false }, kinds := [], alts := [], laidByText := true, laidKinds := [.data, .data, .widerDeep], laidTests := true, laidLooks := .later }
def FlateBoundsCardSaid : Prop := Claim7.holds Tryd.pinned (.plain (OpenSpec.ofChange flateBoundsSpec)) flateBoundsCard

/-- THE TIED CARD OF 'sutlerlaw11.FlateRuns'. -/
def flateRunsCard : Claim7 := { stood := { row := flateRunsRow, standIns := [], harness := (true, "22ecccb90baaa50e905c3abf4c4133f9efb25758116ecc8107423be5ba86d053"), looks := false }, kinds := [], alts := [], laidByText := true, laidKinds := [.data, .data, .widerDeep], laidTests := true, laidLooks := .later }
def FlateRunsCardSaid : Prop := Claim7.holds Tryd.pinned (.plain (OpenSpec.ofChange flateRunsSpec)) flateRunsCard

/-- THE TIED CARD OF 'sutlerlaw11.FlateBack'. -/
def flateBackCard : Claim7 := { stood := { row := flateBackRow, standIns := [], harness := (true, "22ecccb90baaa50e905c3abf4c4133f9efb25758116ecc8107423be5ba86d053"), looks := false }, kinds := [], alts := [], laidByText := true, laidKinds := [.data, .data, .widerDeep], laidTests := true, laidLooks := .later }
def FlateBackCardSaid : Prop := Claim7.holds Tryd.pinned (.plain (OpenSpec.ofChange flateBackSpec)) flateBackCard

/-- THE TIED CARD OF 'sutlerlaw12.GzipShort'. -/
def gzipShortCard : Claim7 := { stood := { row := gzipShortRow, standIns := [], harness := (true, "22ecccb90baaa50e905c3abf4c4133f9efb25758116ecc8107423be5ba86d053"), looks := false }, kinds := [], alts := [], laidByText := true, laidKinds := [.data, .data, .data, .widerDeep, .widerDeep], laidTests := true, laidLooks := .later }
def GzipShortCardSaid : Prop := Claim7.holds Tryd.pinned (.plain (OpenSpec.ofChange gzipShortSpec)) gzipShortCard

/-- THE TIED CARD OF 'sutlerlaw12.GzipSums'. -/
def gzipSumsCard : Claim7 := { stood := { row := gzipSumsRow, standIns := [], harness := (true, "22ecccb90baaa50e905c3abf4c4133f9efb25758116ecc8107423be5ba86d053"), looks := false }, kinds := [], alts := [], laidByText := true, laidKinds := [.data, .data, .data, .widerDeep, .widerDeep], laidTests := true, laidLooks := .later }
def GzipSumsCardSaid : Prop := Claim7.holds Tryd.pinned (.plain (OpenSpec.ofChange gzipSumsSpec)) gzipSumsCard

/-- THE TIED CARD OF 'sutlerlaw12.GzipWrites'. -/
def gzipWritesCard : Claim7 := { stood := { row := gzipWritesRow, standIns := [], harness := (true, "22ecccb90baaa50e905c3abf4c4133f9efb25758116ecc8107423be5ba86d053"), looks := false }, kinds := [], alts := [], laidByText := true, laidKinds := [.data, .data, .data, .widerDeep, .widerDeep], laidTests := true, laidLooks := .later }
def GzipWritesCardSaid : Prop := Claim7.holds Tryd.pinned (.plain (OpenSpec.ofChange gzipWritesSpec)) gzipWritesCard

/-- THE TIED CARD OF 'sutlerlaw12.GzipBack'. -/
def gzipBackCard : Claim7 := { stood := { row := gzipBackRow, standIns := [], harness := (true, "22ecccb90baaa50e905c3abf4c4133f9efb25758116ecc8107423be5ba86d053"), looks := false }, kinds := [], alts := [], laidByText := true, laidKinds := [.data, .data, .data, .widerDeep, .widerDeep], laidTests := true, laidLooks := .later }
def GzipBackCardSaid : Prop := Claim7.holds Tryd.pinned (.plain (OpenSpec.ofChange gzipBackSpec)) gzipBackCard

/-- THE TIED CARD OF 'sutlerlaw12.GzipFinds'. -/
def gzipFindsCard : Claim7 := { stood := { row := gzipFindsRow, standIns := [], harness := (true, "22ecccb90baaa50e905c3abf4c4133f9efb25758116ecc8107423be5ba86d053"), looks := false }, kinds := [], alts := [], laidByText := true, laidKinds := [.data, .data, .data, .widerDeep, .widerDeep], laidTests := true, laidLooks := .later }
def GzipFindsCardSaid : Prop := Claim7.holds Tryd.pinned (.plain (OpenSpec.ofChange gzipFindsSpec)) gzipFindsCard

/-- THE SECOND FORM's CARD OF 'sutlerlaw11.FlateShort'. -/
def flateShortUptoCard : Claim7 := { stood := { row := flateShortUptoRow, standIns := [], harness := (true, "22ecccb90baaa50e905c3abf4c4133f9efb25758116ecc8107423be5ba86d053"), looks := false }, kinds := [], alts := [], laidByText := true, laidKinds := [.data, .data, .widerDeep], laidTests := true, laidLooks := .later }
def FlateShortUptoCardSaid : Prop := Claim7.holds Tryd.pinned (.plain (OpenSpec.upto flateShortSpec)) flateShortUptoCard

/-- THE SECOND FORM's CARD OF 'sutlerlaw11.FlateBounds'. -/
def flateBoundsUptoCard : Claim7 := { stood := { row := flateBoundsUptoRow, standIns := [], harness := (true, "22ecccb90baaa50e905c3abf4c4133f9efb25758116ecc8107423be5ba86d053"), looks := false }, kinds := [], alts := [], laidByText := true, laidKinds := [.data, .data, .widerDeep], laidTests := true, laidLooks := .later }
def FlateBoundsUptoCardSaid : Prop := Claim7.holds Tryd.pinned (.plain (OpenSpec.upto flateBoundsSpec)) flateBoundsUptoCard

/-- THE SECOND FORM's CARD OF 'sutlerlaw11.FlateRuns'. -/
def flateRunsUptoCard : Claim7 := { stood := { row := flateRunsUptoRow, standIns := [], harness := (true, "22ecccb90baaa50e905c3abf4c4133f9efb25758116ecc8107423be5ba86d053"), looks := false }, kinds := [], alts := [], laidByText := true, laidKinds := [.data, .data, .widerDeep], laidTests := true, laidLooks := .later }
def FlateRunsUptoCardSaid : Prop := Claim7.holds Tryd.pinned (.plain (OpenSpec.upto flateRunsSpec)) flateRunsUptoCard

/-- THE SECOND FORM's CARD OF 'sutlerlaw11.FlateBack'. -/
def flateBackUptoCard : Claim7 := { stood := { row := flateBackUptoRow, standIns := [], harness := (true, "22ecccb90baaa50e905c3abf4c4133f9efb25758116ecc8107423be5ba86d053"), looks := false }, kinds := [], alts := [], laidByText := true, laidKinds := [.data, .data, .widerDeep], laidTests := true, laidLooks := .later }
def FlateBackUptoCardSaid : Prop := Claim7.holds Tryd.pinned (.plain (OpenSpec.upto flateBackSpec)) flateBackUptoCard

/-- THE SECOND FORM's CARD OF 'sutlerlaw12.GzipShort'. -/
def gzipShortUptoCard : Claim7 := { stood := { row := gzipShortUptoRow, standIns := [], harness := (true, "22ecccb90baaa50e905c3abf4c4133f9efb25758116ecc8107423be5ba86d053"), looks := false }, kinds := [], alts := [], laidByText := true, laidKinds := [.data, .data, .data, .widerDeep, .widerDeep], laidTests := true, laidLooks := .later }
def GzipShortUptoCardSaid : Prop := Claim7.holds Tryd.pinned (.plain (OpenSpec.upto gzipShortSpec)) gzipShortUptoCard

/-- THE SECOND FORM's CARD OF 'sutlerlaw12.GzipSums'. -/
def gzipSumsUptoCard : Claim7 := { stood := { row := gzipSumsUptoRow, standIns := [], harness := (true, "22ecccb90baaa50e905c3abf4c4133f9efb25758116ecc8107423be5ba86d053"), looks := false }, kinds := [], alts := [], laidByText := true, laidKinds := [.data, .data, .data, .widerDeep, .widerDeep], laidTests := true, laidLooks := .later }
def GzipSumsUptoCardSaid : Prop := Claim7.holds Tryd.pinned (.plain (OpenSpec.upto gzipSumsSpec)) gzipSumsUptoCard

/-- THE SECOND FORM's CARD OF 'sutlerlaw12.GzipWrites'. -/
def gzipWritesUptoCard : Claim7 := { stood := { row := gzipWritesUptoRow, standIns := [], harness := (true, "22ecccb90baaa50e905c3abf4c4133f9efb25758116ecc8107423be5ba86d053"), looks := false }, kinds := [], alts := [], laidByText := true, laidKinds := [.data, .data, .data, .widerDeep, .widerDeep], laidTests := true, laidLooks := .later }
def GzipWritesUptoCardSaid : Prop := Claim7.holds Tryd.pinned (.plain (OpenSpec.upto gzipWritesSpec)) gzipWritesUptoCard

/-- THE SECOND FORM's CARD OF 'sutlerlaw12.GzipBack'. -/
def gzipBackUptoCard : Claim7 := { stood := { row := gzipBackUptoRow, standIns := [], harness := (true, "22ecccb90baaa50e905c3abf4c4133f9efb25758116ecc8107423be5ba86d053"), looks := false }, kinds := [], alts := [], laidByText := true, laidKinds := [.data, .data, .data, .widerDeep, .widerDeep], laidTests := true, laidLooks := .later }
def GzipBackUptoCardSaid : Prop := Claim7.holds Tryd.pinned (.plain (OpenSpec.upto gzipBackSpec)) gzipBackUptoCard

/-- THE SECOND FORM's CARD OF 'sutlerlaw12.GzipFinds'. -/
def gzipFindsUptoCard : Claim7 := { stood := { row := gzipFindsUptoRow, standIns := [], harness := (true, "22ecccb90baaa50e905c3abf4c4133f9efb25758116ecc8107423be5ba86d053"), looks := false }, kinds := [], alts := [], laidByText := true, laidKinds := [.data, .data, .data, .widerDeep, .widerDeep], laidTests := true, laidLooks := .later }
def GzipFindsUptoCardSaid : Prop := Claim7.holds Tryd.pinned (.plain (OpenSpec.upto gzipFindsSpec)) gzipFindsUptoCard
end Rows
end Go.Proofs.YtoekecopfmohiaaDoor
