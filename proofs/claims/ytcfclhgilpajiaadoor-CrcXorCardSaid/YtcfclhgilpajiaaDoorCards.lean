/-
  DERIVED. GIVEN WITH THE SEED: THE CARDS: each row of YtcfclhgilpajiaaDoorRows.lean that lists a variable, with what it lists TIED to the program's text (the seventh form; the later family's looks); each row that meets fmt, with fmt's text TOLD by the authors' own Lean function (tested against real Go, not proved from fmt's source: count such statements apart). THE CARD IS WHAT COUNTS. Prove the row's statement (the work); the ties are given (YtcfclhgilpajiaaDoorTie.lean); close each card by the builder's one call (the guide's Derived/Test/ToyasCard.lean, 'card_holds'). Laid BY PROGRAM, IN A SANDBOX (cutbox-door.mjs). By AI agents, Wed Nov 11 2026. No macro, syntax, notation, axiom, sorry.
-/
import Derived.Test.YtcfclhgilpajiaaDoorRows
import GoSem.ClaimSeven
namespace Go.Proofs.YtcfclhgilpajiaaDoor
namespace Rows

/-- THE TIED CARD OF 'sutlerlaw02.CrcPieces'. -/
def crcPiecesCard : Claim7 := { stood := { row := crcPiecesRow, standIns := [], harness := (true, "18a838cfd6a00275a1b87d056a4b13c590ff5b024b231c1216517c0427d25b6c"), looks := false }, kinds := [], alts := [], laidByText := true, laidKinds := [.data], laidTests := true, laidLooks := .later }
def CrcPiecesCardSaid : Prop := Claim7.holds Tryd.pinned (.plain (OpenSpec.ofChange crcPiecesSpec)) crcPiecesCard

/-- THE TIED CARD OF 'sutlerlaw02.CrcFinds'. -/
def crcFindsCard : Claim7 := { stood := { row := crcFindsRow, standIns := [], harness := (true, "18a838cfd6a00275a1b87d056a4b13c590ff5b024b231c1216517c0427d25b6c"), looks := false }, kinds := [], alts := [], laidByText := true, laidKinds := [.data], laidTests := true, laidLooks := .later }
def CrcFindsCardSaid : Prop := Claim7.holds Tryd.pinned (.plain (OpenSpec.ofChange crcFindsSpec)) crcFindsCard

/-- THE TIED CARD OF 'sutlerlaw02.CrcXor'. -/
def crcXorCard : Claim7 := { stood := { row := crcXorRow, standIns := [], harness := (true, "18a838cfd6a00275a1b87d056a4b13c590ff5b024b231c1216517c0427d25b6c"), looks := false }, kinds := [], alts := [], laidByText := true, laidKinds := [.data], laidTests := true, laidLooks := .later }
def CrcXorCardSaid : Prop := Claim7.holds Tryd.pinned (.plain (OpenSpec.ofChange crcXorSpec)) crcXorCard

/-- THE TIED CARD OF 'sutlerlaw02.CrcSums'. -/
def crcSumsCard : Claim7 := { stood := { row := crcSumsRow, standIns := [], harness := (true, "18a838cfd6a00275a1b87d056a4b13c590ff5b024b231c1216517c0427d25b6c"), looks := false }, kinds := [], alts := [], laidByText := true, laidKinds := [.data], laidTests := true, laidLooks := .later }
def CrcSumsCardSaid : Prop := Claim7.holds Tryd.pinned (.plain (OpenSpec.ofChange crcSumsSpec)) crcSumsCard

/-- THE TIED CARD OF 'sutlerlaw02.CrcFlips'. -/
def crcFlipsCard : Claim7 := { stood := { row := crcFlipsRow, standIns := [], harness := (true, "18a838cfd6a00275a1b87d056a4b13c590ff5b024b231c1216517c0427d25b6c"), looks := false }, kinds := [], alts := [], laidByText := true, laidKinds := [.data], laidTests := true, laidLooks := .later }
def CrcFlipsCardSaid : Prop := Claim7.holds Tryd.pinned (.plain (OpenSpec.ofChange crcFlipsSpec)) crcFlipsCard

/-- THE TIED CARD OF 'sutlerlaw02.CrcBack'. -/
def crcBackCard : Claim7 := { stood := { row := crcBackRow, standIns := [], harness := (true, "18a838cfd6a00275a1b87d056a4b13c590ff5b024b231c1216517c0427d25b6c"), looks := false }, kinds := [], alts := [], laidByText := true, laidKinds := [.data], laidTests := true, laidLooks := .later }
def CrcBackCardSaid : Prop := Claim7.holds Tryd.pinned (.plain (OpenSpec.ofChange crcBackSpec)) crcBackCard

/-- THE SECOND FORM's CARD OF 'sutlerlaw02.CrcPieces'. -/
def crcPiecesUptoCard : Claim7 := { stood := { row := crcPiecesUptoRow, standIns := [], harness := (true, "18a838cfd6a00275a1b87d056a4b13c590ff5b024b231c1216517c0427d25b6c"), looks := false }, kinds := [], alts := [], laidByText := true, laidKinds := [.data], laidTests := true, laidLooks := .later }
def CrcPiecesUptoCardSaid : Prop := Claim7.holds Tryd.pinned (.plain (OpenSpec.upto crcPiecesSpec)) crcPiecesUptoCard

/-- THE SECOND FORM's CARD OF 'sutlerlaw02.CrcFinds'. -/
def crcFindsUptoCard : Claim7 := { stood := { row := crcFindsUptoRow, standIns := [], harness := (true, "18a838cfd6a00275a1b87d056a4b13c590ff5b024b231c1216517c0427d25b6c"), looks := false }, kinds := [], alts := [], laidByText := true, laidKinds := [.data], laidTests := true, laidLooks := .later }
def CrcFindsUptoCardSaid : Prop := Claim7.holds Tryd.pinned (.plain (OpenSpec.upto crcFindsSpec)) crcFindsUptoCard

/-- THE SECOND FORM's CARD OF 'sutlerlaw02.CrcXor'. -/
def crcXorUptoCard : Claim7 := { stood := { row := crcXorUptoRow, standIns := [], harness := (true, "18a838cfd6a00275a1b87d056a4b13c590ff5b024b231c1216517c0427d25b6c"), looks := false }, kinds := [], alts := [], laidByText := true, laidKinds := [.data], laidTests := true, laidLooks := .later }
def CrcXorUptoCardSaid : Prop := Claim7.holds Tryd.pinned (.plain (OpenSpec.upto crcXorSpec)) crcXorUptoCard

/-- THE SECOND FORM's CARD OF 'sutlerlaw02.CrcSums'. -/
def crcSumsUptoCard : Claim7 := { stood := { row := crcSumsUptoRow, standIns := [], harness := (true, "18a838cfd6a00275a1b87d056a4b13c590ff5b024b231c1216517c0427d25b6c"), looks := false }, kinds := [], alts := [], laidByText := true, laidKinds := [.data], laidTests := true, laidLooks := .later }
def CrcSumsUptoCardSaid : Prop := Claim7.holds Tryd.pinned (.plain (OpenSpec.upto crcSumsSpec)) crcSumsUptoCard

/-- THE SECOND FORM's CARD OF 'sutlerlaw02.CrcFlips'. -/
def crcFlipsUptoCard : Claim7 := { stood := { row := crcFlipsUptoRow, standIns := [], harness := (true, "18a838cfd6a00275a1b87d056a4b13c590ff5b024b231c1216517c0427d25b6c"), looks := false }, kinds := [], alts := [], laidByText := true, laidKinds := [.data], laidTests := true, laidLooks := .later }
def CrcFlipsUptoCardSaid : Prop := Claim7.holds Tryd.pinned (.plain (OpenSpec.upto crcFlipsSpec)) crcFlipsUptoCard

/-- THE SECOND FORM's CARD OF 'sutlerlaw02.CrcBack'. -/
def crcBackUptoCard : Claim7 := { stood := { row := crcBackUptoRow, standIns := [], harness := (true, "18a838cfd6a00275a1b87d056a4b13c590ff5b024b231c1216517c0427d25b6c"), looks := false }, kinds := [], alts := [], laidByText := true, laidKinds := [.data], laidTests := true, laidLooks := .later }
def CrcBackUptoCardSaid : Prop := Claim7.holds Tryd.pinned (.plain (OpenSpec.upto crcBackSpec)) crcBackUptoCard
end Rows
end Go.Proofs.YtcfclhgilpajiaaDoor
