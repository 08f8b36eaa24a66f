/-
  NARROWER THAN 'FOR EVERY INPUT', by the rows' own cells (each row's printed sentence says how): CrcPieces: laid · CrcFinds: laid · CrcXor: laid · CrcSums: laid · CrcFlips: laid · CrcBack: laid.
  DERIVED. THE GIVEN ROWS OF THIS SEAT. 6 by the template 'for every input the law returns true; each argument reads behind the call as it read before'; 0 by the template 'total and deterministic' (their statements: YtcfclhgilpajiaaDoorTotals.lean).
  GIVEN WITH THE SEED: the statements are not yours to turn. If you find one false, say at which input.
  Laid BY PROGRAM, IN A SANDBOX (cutbox-rows.mjs): the forced cells as the released guide's own fill.sh prints them over the translation 073159894f1f5723… (all of the seat's roots in one cut). By AI agents, Wed Nov 11 2026. No macro, syntax, notation, axiom, sorry.
-/
import Derived.Test.YtcfclhgilpajiaaDoorChecked
import GoSem.Claim
import GoSem.ClaimJoined
import GoSem.ClaimMapViews
import Derived.JoinedTies
import Derived.KernelRfl
namespace Go.Proofs.YtcfclhgilpajiaaDoor
/- THE CELL 'sum', in the pinned program and in every row, IS THE sha256 OF THE DUMP (.gsa) THAT YtcfclhgilpajiaaDoorProg.lean LOADS. Nothing in Lean hashes anything: it is a label: what it is worth is what the hold of that sum in a sandbox is worth. -/
noncomputable def Tryd.pinned : Pinned := { name := "ytcfclhgilpajiaadoor", sum := "073159894f1f572309f0d3ac00b374576a2d129e060d07146f1e4d021acb0dfb", checked := Tryd.checked }
namespace Rows
def none {H : Type} : Left H := { results := [], args := [] }

/- WHAT THE LISTED PACKAGE-LEVEL VARIABLES READ AS WHEN THE CALL BEGINS. Each datum BY PROGRAM (the guide's laid-datum.mjs) off the statement by which the dump's own 'gosem.cut.vars' lays the variable. In a bare row this is a premise. The card (YtcfclhgilpajiaaDoorCards.lean) ties it to the program's text. -/
def laid_sutler_crc_half {H : Type} : DataW H := .agg [.lit (.int .u32 0), .lit (.int .u32 498536548), .lit (.int .u32 997073096), .lit (.int .u32 651767980), .lit (.int .u32 1994146192), .lit (.int .u32 1802195444), .lit (.int .u32 1303535960), .lit (.int .u32 1342533948), .lit (.int .u32 3988292384), .lit (.int .u32 4027552580), .lit (.int .u32 3604390888), .lit (.int .u32 3412177804), .lit (.int .u32 2607071920), .lit (.int .u32 2262029012), .lit (.int .u32 2685067896), .lit (.int .u32 3183342108)]

/-- 'sutlerlaw02.CrcPieces': WHATEVER THE INPUT: true; the input reads as it did. -/
def crcPiecesSpec : ChangeSpec := { name := "crcPieces", fn := fun _ => fun
  | [d1, d2] => { results := [.lit (.bool true)], args := [d1, d2] }
  | _ => none }
def crcPiecesRow : OpenClaim := { program := "ytcfclhgilpajiaadoor", sum := "073159894f1f572309f0d3ac00b374576a2d129e060d07146f1e4d021acb0dfb", func := "sutler/sutlerlaw02.CrcPieces", spec := "crcPieces", named := ["sutler/crc.half"], apart := false, laid := [("sutler/crc.half", laid_sutler_crc_half)] }
def CrcPiecesSaid : Prop := crcPiecesRow.holds Tryd.pinned (OpenSpec.ofChange crcPiecesSpec)

/-- ITS FALSE NEIGHBOUR: 'it returns false'. Refute it at one input. -/
def crcPiecesWrong : ChangeSpec := { name := "crcPieces", fn := fun _ => fun
  | [d1, d2] => { results := [.lit (.bool false)], args := [d1, d2] }
  | _ => none }
def CrcPiecesWrongFalsely : Prop := crcPiecesRow.holds Tryd.pinned (OpenSpec.ofChange crcPiecesWrong)

/-- 'sutlerlaw02.CrcFinds': WHATEVER THE INPUT: true; the input reads as it did. -/
def crcFindsSpec : ChangeSpec := { name := "crcFinds", fn := fun _ => fun
  | [d1, d2, d3] => { results := [.lit (.bool true)], args := [d1, d2, d3] }
  | _ => none }
def crcFindsRow : OpenClaim := { program := "ytcfclhgilpajiaadoor", sum := "073159894f1f572309f0d3ac00b374576a2d129e060d07146f1e4d021acb0dfb", func := "sutler/sutlerlaw02.CrcFinds", spec := "crcFinds", named := ["sutler/crc.half"], apart := false, laid := [("sutler/crc.half", laid_sutler_crc_half)] }
def CrcFindsSaid : Prop := crcFindsRow.holds Tryd.pinned (OpenSpec.ofChange crcFindsSpec)

/-- ITS FALSE NEIGHBOUR: 'it returns false'. Refute it at one input. -/
def crcFindsWrong : ChangeSpec := { name := "crcFinds", fn := fun _ => fun
  | [d1, d2, d3] => { results := [.lit (.bool false)], args := [d1, d2, d3] }
  | _ => none }
def CrcFindsWrongFalsely : Prop := crcFindsRow.holds Tryd.pinned (OpenSpec.ofChange crcFindsWrong)

/-- 'sutlerlaw02.CrcXor': WHATEVER THE INPUT: true; the input reads as it did. -/
def crcXorSpec : ChangeSpec := { name := "crcXor", fn := fun _ => fun
  | [d1, d2, d3] => { results := [.lit (.bool true)], args := [d1, d2, d3] }
  | _ => none }
def crcXorRow : OpenClaim := { program := "ytcfclhgilpajiaadoor", sum := "073159894f1f572309f0d3ac00b374576a2d129e060d07146f1e4d021acb0dfb", func := "sutler/sutlerlaw02.CrcXor", spec := "crcXor", named := ["sutler/crc.half"], apart := false, laid := [("sutler/crc.half", laid_sutler_crc_half)] }
def CrcXorSaid : Prop := crcXorRow.holds Tryd.pinned (OpenSpec.ofChange crcXorSpec)

/-- ITS FALSE NEIGHBOUR: 'it returns false'. Refute it at one input. -/
def crcXorWrong : ChangeSpec := { name := "crcXor", fn := fun _ => fun
  | [d1, d2, d3] => { results := [.lit (.bool false)], args := [d1, d2, d3] }
  | _ => none }
def CrcXorWrongFalsely : Prop := crcXorRow.holds Tryd.pinned (OpenSpec.ofChange crcXorWrong)

/-- 'sutlerlaw02.CrcSums': WHATEVER THE INPUT: true; the input reads as it did. -/
def crcSumsSpec : ChangeSpec := { name := "crcSums", fn := fun _ => fun
  | [d1, d2, d3] => { results := [.lit (.bool true)], args := [d1, d2, d3] }
  | _ => none }
def crcSumsRow : OpenClaim := { program := "ytcfclhgilpajiaadoor", sum := "073159894f1f572309f0d3ac00b374576a2d129e060d07146f1e4d021acb0dfb", func := "sutler/sutlerlaw02.CrcSums", spec := "crcSums", named := ["sutler/crc.half"], apart := false, laid := [("sutler/crc.half", laid_sutler_crc_half)] }
def CrcSumsSaid : Prop := crcSumsRow.holds Tryd.pinned (OpenSpec.ofChange crcSumsSpec)

/-- ITS FALSE NEIGHBOUR: 'it returns false'. Refute it at one input. -/
def crcSumsWrong : ChangeSpec := { name := "crcSums", fn := fun _ => fun
  | [d1, d2, d3] => { results := [.lit (.bool false)], args := [d1, d2, d3] }
  | _ => none }
def CrcSumsWrongFalsely : Prop := crcSumsRow.holds Tryd.pinned (OpenSpec.ofChange crcSumsWrong)

/-- 'sutlerlaw02.CrcFlips': WHATEVER THE INPUT: true; the input reads as it did. -/
def crcFlipsSpec : ChangeSpec := { name := "crcFlips", fn := fun _ => fun
  | [d1, d2, d3, d4, d5] => { results := [.lit (.bool true)], args := [d1, d2, d3, d4, d5] }
  | _ => none }
def crcFlipsRow : OpenClaim := { program := "ytcfclhgilpajiaadoor", sum := "073159894f1f572309f0d3ac00b374576a2d129e060d07146f1e4d021acb0dfb", func := "sutler/sutlerlaw02.CrcFlips", spec := "crcFlips", named := ["sutler/crc.half"], apart := false, laid := [("sutler/crc.half", laid_sutler_crc_half)] }
def CrcFlipsSaid : Prop := crcFlipsRow.holds Tryd.pinned (OpenSpec.ofChange crcFlipsSpec)

/-- ITS FALSE NEIGHBOUR: 'it returns false'. Refute it at one input. -/
def crcFlipsWrong : ChangeSpec := { name := "crcFlips", fn := fun _ => fun
  | [d1, d2, d3, d4, d5] => { results := [.lit (.bool false)], args := [d1, d2, d3, d4, d5] }
  | _ => none }
def CrcFlipsWrongFalsely : Prop := crcFlipsRow.holds Tryd.pinned (OpenSpec.ofChange crcFlipsWrong)

/-- 'sutlerlaw02.CrcBack': WHATEVER THE INPUT: true; the input reads as it did. -/
def crcBackSpec : ChangeSpec := { name := "crcBack", fn := fun _ => fun
  | [d1, d2, d3, d4] => { results := [.lit (.bool true)], args := [d1, d2, d3, d4] }
  | _ => none }
def crcBackRow : OpenClaim := { program := "ytcfclhgilpajiaadoor", sum := "073159894f1f572309f0d3ac00b374576a2d129e060d07146f1e4d021acb0dfb", func := "sutler/sutlerlaw02.CrcBack", spec := "crcBack", named := ["sutler/crc.half"], apart := false, laid := [("sutler/crc.half", laid_sutler_crc_half)] }
def CrcBackSaid : Prop := crcBackRow.holds Tryd.pinned (OpenSpec.ofChange crcBackSpec)

/-- ITS FALSE NEIGHBOUR: 'it returns false'. Refute it at one input. -/
def crcBackWrong : ChangeSpec := { name := "crcBack", fn := fun _ => fun
  | [d1, d2, d3, d4] => { results := [.lit (.bool false)], args := [d1, d2, d3, d4] }
  | _ => none }
def CrcBackWrongFalsely : Prop := crcBackRow.holds Tryd.pinned (OpenSpec.ofChange crcBackWrong)

/- THE SECOND FORM. 'bulk': how many values and letters a reading holds, each counted each time it is reached (what is shared counts as often as it is met; a slice's spare places count too). A statement '..UptoSaid' is the law's where the arguments, and the package variables that the reading takes, are together of bulk at most 1048576: NARROWER than '..Said'. Prove '..Said' where nothing that the law and all that it calls make is longer than what came in: it says more and counts as full. Else prove '..UptoSaid'. A law counts once. -/
mutual
def uptoBulk {H : Type} : DataW H → Nat
  | .lit (.string bytes) => bytes.length + 1
  | .lit _ => 1
  | .nil => 1
  | .ptr d => uptoBulk d + 1
  | .slice elems spare => uptoBulkAll elems + uptoBulkAll spare + 1
  | .agg parts => uptoBulkAll parts + 1
  | .iface _ d => uptoBulk d + 1
  | .map entries => uptoBulkEntries entries + 1
  | .held _ => 1
def uptoBulkAll {H : Type} : List (DataW H) → Nat
  | [] => 0
  | d :: r => uptoBulk d + uptoBulkAll r
def uptoBulkEntries {H : Type} : List (Lit × DataW H) → Nat
  | [] => 0
  | x :: r => uptoBulkEntry x + uptoBulkEntries r
def uptoBulkEntry {H : Type} : Lit × DataW H → Nat
  | (.string bytes, d) => bytes.length + uptoBulk d + 1
  | (_, d) => uptoBulk d + 1
 end
def uptoSmall : (H : Type) → List (DataW H) → Bool := fun _ ds => decide (uptoBulkAll ds ≤ 1048576)
def OpenSpec.upto (s : _root_.Go.ChangeSpec) : _root_.Go.OpenSpec := { _root_.Go.OpenSpec.ofChange s with cond := some uptoSmall }

/-- 'sutlerlaw02.CrcPieces', WHERE WHAT IT READS IS OF BULK AT MOST 1048576: true; the input reads as it did. -/
def crcPiecesUptoRow : OpenClaim := { program := "ytcfclhgilpajiaadoor", sum := "073159894f1f572309f0d3ac00b374576a2d129e060d07146f1e4d021acb0dfb", func := "sutler/sutlerlaw02.CrcPieces", spec := "crcPieces", named := ["sutler/crc.half"], apart := false, laid := [("sutler/crc.half", laid_sutler_crc_half)], narrowed := true }
def CrcPiecesUptoSaid : Prop := crcPiecesUptoRow.holds Tryd.pinned (OpenSpec.upto crcPiecesSpec)

/-- 'sutlerlaw02.CrcFinds', WHERE WHAT IT READS IS OF BULK AT MOST 1048576: true; the input reads as it did. -/
def crcFindsUptoRow : OpenClaim := { program := "ytcfclhgilpajiaadoor", sum := "073159894f1f572309f0d3ac00b374576a2d129e060d07146f1e4d021acb0dfb", func := "sutler/sutlerlaw02.CrcFinds", spec := "crcFinds", named := ["sutler/crc.half"], apart := false, laid := [("sutler/crc.half", laid_sutler_crc_half)], narrowed := true }
def CrcFindsUptoSaid : Prop := crcFindsUptoRow.holds Tryd.pinned (OpenSpec.upto crcFindsSpec)

/-- 'sutlerlaw02.CrcXor', WHERE WHAT IT READS IS OF BULK AT MOST 1048576: true; the input reads as it did. -/
def crcXorUptoRow : OpenClaim := { program := "ytcfclhgilpajiaadoor", sum := "073159894f1f572309f0d3ac00b374576a2d129e060d07146f1e4d021acb0dfb", func := "sutler/sutlerlaw02.CrcXor", spec := "crcXor", named := ["sutler/crc.half"], apart := false, laid := [("sutler/crc.half", laid_sutler_crc_half)], narrowed := true }
def CrcXorUptoSaid : Prop := crcXorUptoRow.holds Tryd.pinned (OpenSpec.upto crcXorSpec)

/-- 'sutlerlaw02.CrcSums', WHERE WHAT IT READS IS OF BULK AT MOST 1048576: true; the input reads as it did. -/
def crcSumsUptoRow : OpenClaim := { program := "ytcfclhgilpajiaadoor", sum := "073159894f1f572309f0d3ac00b374576a2d129e060d07146f1e4d021acb0dfb", func := "sutler/sutlerlaw02.CrcSums", spec := "crcSums", named := ["sutler/crc.half"], apart := false, laid := [("sutler/crc.half", laid_sutler_crc_half)], narrowed := true }
def CrcSumsUptoSaid : Prop := crcSumsUptoRow.holds Tryd.pinned (OpenSpec.upto crcSumsSpec)

/-- 'sutlerlaw02.CrcFlips', WHERE WHAT IT READS IS OF BULK AT MOST 1048576: true; the input reads as it did. -/
def crcFlipsUptoRow : OpenClaim := { program := "ytcfclhgilpajiaadoor", sum := "073159894f1f572309f0d3ac00b374576a2d129e060d07146f1e4d021acb0dfb", func := "sutler/sutlerlaw02.CrcFlips", spec := "crcFlips", named := ["sutler/crc.half"], apart := false, laid := [("sutler/crc.half", laid_sutler_crc_half)], narrowed := true }
def CrcFlipsUptoSaid : Prop := crcFlipsUptoRow.holds Tryd.pinned (OpenSpec.upto crcFlipsSpec)

/-- 'sutlerlaw02.CrcBack', WHERE WHAT IT READS IS OF BULK AT MOST 1048576: true; the input reads as it did. -/
def crcBackUptoRow : OpenClaim := { program := "ytcfclhgilpajiaadoor", sum := "073159894f1f572309f0d3ac00b374576a2d129e060d07146f1e4d021acb0dfb", func := "sutler/sutlerlaw02.CrcBack", spec := "crcBack", named := ["sutler/crc.half"], apart := false, laid := [("sutler/crc.half", laid_sutler_crc_half)], narrowed := true }
def CrcBackUptoSaid : Prop := crcBackUptoRow.holds Tryd.pinned (OpenSpec.upto crcBackSpec)

end Rows
end Go.Proofs.YtcfclhgilpajiaaDoor
