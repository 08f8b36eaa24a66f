/-
  DERIVED. GIVEN WITH THE SEED: THE CARDS: each row of YtkcifjgfgommoaaDoorRows.lean that lists a variable, with what it lists TIED to the program's text (the seventh form; the later family's looks); each row that meets fmt, with fmt's text TOLD by the authors' own Lean function (tested against real Go, not proved from fmt's source: count such statements apart). THE CARD IS WHAT COUNTS. Prove the row's statement (the work); the ties are given (YtkcifjgfgommoaaDoorTie.lean); close each card by the builder's one call (the guide's Derived/Test/ToyasCard.lean, 'card_holds'). Laid BY PROGRAM, IN A SANDBOX (cutbox-door.mjs). By AI agents, Wed Nov 11 2026. No macro, syntax, notation, axiom, sorry.
-/
import Derived.Test.YtkcifjgfgommoaaDoorRows
import GoSem.ClaimSeven
namespace Go.Proofs.YtkcifjgfgommoaaDoor
namespace Rows

/-- THE TIED CARD OF 'sutlerlaw16.DigestSums'. -/
def digestSumsCard : Claim7 := { stood := { row := digestSumsRow, standIns := [], harness := (true, "731cbaa0d6efa4ae113b9e44b098172049c6eae9ea820ca7307cf17476929154"), looks := false }, kinds := [], alts := [], laidByText := true, laidKinds := [.widerDeep, .data, .data], laidTests := true, laidLooks := .later }
def DigestSumsCardSaid : Prop := Claim7.holds Tryd.pinned (.plain (OpenSpec.ofChange digestSumsSpec)) digestSumsCard

/-- THE TIED CARD OF 'sutlerlaw16.DigestKeys'. -/
def digestKeysCard : Claim7 := { stood := { row := digestKeysRow, standIns := [], harness := (true, "731cbaa0d6efa4ae113b9e44b098172049c6eae9ea820ca7307cf17476929154"), looks := false }, kinds := [], alts := [], laidByText := true, laidKinds := [.widerDeep, .data, .data], laidTests := true, laidLooks := .later }
def DigestKeysCardSaid : Prop := Claim7.holds Tryd.pinned (.plain (OpenSpec.ofChange digestKeysSpec)) digestKeysCard

/-- THE TIED CARD OF 'sutlerlaw16.DigestPlain'. -/
def digestPlainCard : Claim7 := { stood := { row := digestPlainRow, standIns := [], harness := (true, "731cbaa0d6efa4ae113b9e44b098172049c6eae9ea820ca7307cf17476929154"), looks := false }, kinds := [], alts := [], laidByText := true, laidKinds := [.widerDeep, .data, .data], laidTests := true, laidLooks := .later }
def DigestPlainCardSaid : Prop := Claim7.holds Tryd.pinned (.plain (OpenSpec.ofChange digestPlainSpec)) digestPlainCard

/-- THE TIED CARD OF 'sutlerlaw16.DigestBack'. -/
def digestBackCard : Claim7 := { stood := { row := digestBackRow, standIns := [], harness := (true, "731cbaa0d6efa4ae113b9e44b098172049c6eae9ea820ca7307cf17476929154"), looks := false }, kinds := [], alts := [], laidByText := true, laidKinds := [.widerDeep, .data, .data], laidTests := true, laidLooks := .later }
def DigestBackCardSaid : Prop := Claim7.holds Tryd.pinned (.plain (OpenSpec.ofChange digestBackSpec)) digestBackCard

/-- THE TIED CARD OF 'sutlerlaw16.DigestTexts'. -/
def digestTextsCard : Claim7 := { stood := { row := digestTextsRow, standIns := [], harness := (true, "731cbaa0d6efa4ae113b9e44b098172049c6eae9ea820ca7307cf17476929154"), looks := false }, kinds := [], alts := [], laidByText := true, laidKinds := [.widerDeep, .data, .data], laidTests := true, laidLooks := .later }
def DigestTextsCardSaid : Prop := Claim7.holds Tryd.pinned (.plain (OpenSpec.ofChange digestTextsSpec)) digestTextsCard

/-- THE SECOND FORM's CARD OF 'sutlerlaw16.DigestSums'. -/
def digestSumsUptoCard : Claim7 := { stood := { row := digestSumsUptoRow, standIns := [], harness := (true, "731cbaa0d6efa4ae113b9e44b098172049c6eae9ea820ca7307cf17476929154"), looks := false }, kinds := [], alts := [], laidByText := true, laidKinds := [.widerDeep, .data, .data], laidTests := true, laidLooks := .later }
def DigestSumsUptoCardSaid : Prop := Claim7.holds Tryd.pinned (.plain (OpenSpec.upto digestSumsSpec)) digestSumsUptoCard

/-- THE SECOND FORM's CARD OF 'sutlerlaw16.DigestKeys'. -/
def digestKeysUptoCard : Claim7 := { stood := { row := digestKeysUptoRow, standIns := [], harness := (true, "731cbaa0d6efa4ae113b9e44b098172049c6eae9ea820ca7307cf17476929154"), looks := false }, kinds := [], alts := [], laidByText := true, laidKinds := [.widerDeep, .data, .data], laidTests := true, laidLooks := .later }
def DigestKeysUptoCardSaid : Prop := Claim7.holds Tryd.pinned (.plain (OpenSpec.upto digestKeysSpec)) digestKeysUptoCard

/-- THE SECOND FORM's CARD OF 'sutlerlaw16.DigestPlain'. -/
def digestPlainUptoCard : Claim7 := { stood := { row := digestPlainUptoRow, standIns := [], harness := (true, "731cbaa0d6efa4ae113b9e44b098172049c6eae9ea820ca7307cf17476929154"), looks := false }, kinds := [], alts := [], laidByText := true, laidKinds := [.widerDeep, .data, .data], laidTests := true, laidLooks := .later }
def DigestPlainUptoCardSaid : Prop := Claim7.holds Tryd.pinned (.plain (OpenSpec.upto digestPlainSpec)) digestPlainUptoCard

/-- THE SECOND FORM's CARD OF 'sutlerlaw16.DigestBack'. -/
def digestBackUptoCard : Claim7 := { stood := { row := digestBackUptoRow, standIns := [], harness := (true, "731cbaa0d6efa4ae113b9e44b098172049c6eae9ea820ca7307cf17476929154"), looks := false }, kinds := [], alts := [], laidByText := true, laidKinds := [.widerDeep, .data, .data], laidTests := true, laidLooks := .later }
def DigestBackUptoCardSaid : Prop := Claim7.holds Tryd.pinned (.plain (OpenSpec.upto digestBackSpec)) digestBackUptoCard

/-- THE SECOND FORM's CARD OF 'sutlerlaw16.DigestTexts'. -/
def digestTextsUptoCard : Claim7 := { stood := { row := digestTextsUptoRow, standIns := [], harness := (true, "731cbaa0d6efa4ae113b9e44b098172049c6eae9ea820ca7307cf17476929154"), looks := false }, kinds := [], alts := [], laidByText := true, laidKinds := [.widerDeep, .data, .data], laidTests := true, laidLooks := .later }
def DigestTextsUptoCardSaid : Prop := Claim7.holds Tryd.pinned (.plain (OpenSpec.upto digestTextsSpec)) digestTextsUptoCard
end Rows
end Go.Proofs.YtkcifjgfgommoaaDoor
