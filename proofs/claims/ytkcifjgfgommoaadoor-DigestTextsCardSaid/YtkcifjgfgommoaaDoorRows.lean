/-
  NARROWER THAN 'FOR EVERY INPUT', by the rows' own cells (each row's printed sentence says how): DigestSums: laid · DigestKeys: laid · DigestPlain: laid · DigestBack: laid · DigestTexts: laid.
  DERIVED. THE GIVEN ROWS OF THIS SEAT. 5 by the template 'for every input the law returns true; each argument reads behind the call as it read before'; 0 by the template 'total and deterministic' (their statements: YtkcifjgfgommoaaDoorTotals.lean).
  GIVEN WITH THE SEED: the statements are not yours to turn. If you find one false, say at which input.
  Laid BY PROGRAM, IN A SANDBOX (cutbox-rows.mjs): the forced cells as the released guide's own fill.sh prints them over the translation 5dc1ba2d5ce648d9… (all of the seat's roots in one cut). By AI agents, Wed Nov 11 2026. No macro, syntax, notation, axiom, sorry.
-/
import Derived.Test.YtkcifjgfgommoaaDoorChecked
import GoSem.Claim
import GoSem.ClaimJoined
import GoSem.ClaimMapViews
import Derived.JoinedTies
import Derived.KernelRfl
namespace Go.Proofs.YtkcifjgfgommoaaDoor
/- THE CELL 'sum', in the pinned program and in every row, IS THE sha256 OF THE DUMP (.gsa) THAT YtkcifjgfgommoaaDoorProg.lean LOADS. Nothing in Lean hashes anything: it is a label: what it is worth is what the hold of that sum in a sandbox is worth. -/
noncomputable def Tryd.pinned : Pinned := { name := "ytkcifjgfgommoaadoor", sum := "5dc1ba2d5ce648d913c861d851394847ecb3e7a89a2a4c1d76a59501814522c4", checked := Tryd.checked }
namespace Rows
def none {H : Type} : Left H := { results := [], args := [] }

/- WHAT THE LISTED PACKAGE-LEVEL VARIABLES READ AS WHEN THE CALL BEGINS. Each datum BY PROGRAM (the guide's laid-datum.mjs) off the statement by which the dump's own 'gosem.cut.vars' lays the variable. In a bare row this is a premise. The card (YtkcifjgfgommoaaDoorCards.lean) ties it to the program's text. -/
def laid_sutler_digest_iv {H : Type} : DataW H := .agg [.lit (.int .u32 1779033703), .lit (.int .u32 3144134277), .lit (.int .u32 1013904242), .lit (.int .u32 2773480762), .lit (.int .u32 1359893119), .lit (.int .u32 2600822924), .lit (.int .u32 528734635), .lit (.int .u32 1541459225)]
def laid_sutler_digest_rows {H : Type} : DataW H := .agg [.agg [.lit (.int .u8 0), .lit (.int .u8 1), .lit (.int .u8 2), .lit (.int .u8 3), .lit (.int .u8 4), .lit (.int .u8 5), .lit (.int .u8 6), .lit (.int .u8 7), .lit (.int .u8 8), .lit (.int .u8 9), .lit (.int .u8 10), .lit (.int .u8 11), .lit (.int .u8 12), .lit (.int .u8 13), .lit (.int .u8 14), .lit (.int .u8 15)], .agg [.lit (.int .u8 14), .lit (.int .u8 10), .lit (.int .u8 4), .lit (.int .u8 8), .lit (.int .u8 9), .lit (.int .u8 15), .lit (.int .u8 13), .lit (.int .u8 6), .lit (.int .u8 1), .lit (.int .u8 12), .lit (.int .u8 0), .lit (.int .u8 2), .lit (.int .u8 11), .lit (.int .u8 7), .lit (.int .u8 5), .lit (.int .u8 3)], .agg [.lit (.int .u8 11), .lit (.int .u8 8), .lit (.int .u8 12), .lit (.int .u8 0), .lit (.int .u8 5), .lit (.int .u8 2), .lit (.int .u8 15), .lit (.int .u8 13), .lit (.int .u8 10), .lit (.int .u8 14), .lit (.int .u8 3), .lit (.int .u8 6), .lit (.int .u8 7), .lit (.int .u8 1), .lit (.int .u8 9), .lit (.int .u8 4)], .agg [.lit (.int .u8 7), .lit (.int .u8 9), .lit (.int .u8 3), .lit (.int .u8 1), .lit (.int .u8 13), .lit (.int .u8 12), .lit (.int .u8 11), .lit (.int .u8 14), .lit (.int .u8 2), .lit (.int .u8 6), .lit (.int .u8 5), .lit (.int .u8 10), .lit (.int .u8 4), .lit (.int .u8 0), .lit (.int .u8 15), .lit (.int .u8 8)], .agg [.lit (.int .u8 9), .lit (.int .u8 0), .lit (.int .u8 5), .lit (.int .u8 7), .lit (.int .u8 2), .lit (.int .u8 4), .lit (.int .u8 10), .lit (.int .u8 15), .lit (.int .u8 14), .lit (.int .u8 1), .lit (.int .u8 11), .lit (.int .u8 12), .lit (.int .u8 6), .lit (.int .u8 8), .lit (.int .u8 3), .lit (.int .u8 13)], .agg [.lit (.int .u8 2), .lit (.int .u8 12), .lit (.int .u8 6), .lit (.int .u8 10), .lit (.int .u8 0), .lit (.int .u8 11), .lit (.int .u8 8), .lit (.int .u8 3), .lit (.int .u8 4), .lit (.int .u8 13), .lit (.int .u8 7), .lit (.int .u8 5), .lit (.int .u8 15), .lit (.int .u8 14), .lit (.int .u8 1), .lit (.int .u8 9)], .agg [.lit (.int .u8 12), .lit (.int .u8 5), .lit (.int .u8 1), .lit (.int .u8 15), .lit (.int .u8 14), .lit (.int .u8 13), .lit (.int .u8 4), .lit (.int .u8 10), .lit (.int .u8 0), .lit (.int .u8 7), .lit (.int .u8 6), .lit (.int .u8 3), .lit (.int .u8 9), .lit (.int .u8 2), .lit (.int .u8 8), .lit (.int .u8 11)], .agg [.lit (.int .u8 13), .lit (.int .u8 11), .lit (.int .u8 7), .lit (.int .u8 14), .lit (.int .u8 12), .lit (.int .u8 1), .lit (.int .u8 3), .lit (.int .u8 9), .lit (.int .u8 5), .lit (.int .u8 0), .lit (.int .u8 15), .lit (.int .u8 4), .lit (.int .u8 8), .lit (.int .u8 6), .lit (.int .u8 2), .lit (.int .u8 10)], .agg [.lit (.int .u8 6), .lit (.int .u8 15), .lit (.int .u8 14), .lit (.int .u8 9), .lit (.int .u8 11), .lit (.int .u8 3), .lit (.int .u8 0), .lit (.int .u8 8), .lit (.int .u8 12), .lit (.int .u8 2), .lit (.int .u8 13), .lit (.int .u8 7), .lit (.int .u8 1), .lit (.int .u8 4), .lit (.int .u8 10), .lit (.int .u8 5)], .agg [.lit (.int .u8 10), .lit (.int .u8 2), .lit (.int .u8 8), .lit (.int .u8 4), .lit (.int .u8 7), .lit (.int .u8 6), .lit (.int .u8 1), .lit (.int .u8 5), .lit (.int .u8 15), .lit (.int .u8 11), .lit (.int .u8 9), .lit (.int .u8 14), .lit (.int .u8 3), .lit (.int .u8 12), .lit (.int .u8 13), .lit (.int .u8 0)]]
def laid_sutler_digest_lanes {H : Type} : DataW H := .agg [.agg [.lit (.int .u8 0), .lit (.int .u8 4), .lit (.int .u8 8), .lit (.int .u8 12)], .agg [.lit (.int .u8 1), .lit (.int .u8 5), .lit (.int .u8 9), .lit (.int .u8 13)], .agg [.lit (.int .u8 2), .lit (.int .u8 6), .lit (.int .u8 10), .lit (.int .u8 14)], .agg [.lit (.int .u8 3), .lit (.int .u8 7), .lit (.int .u8 11), .lit (.int .u8 15)], .agg [.lit (.int .u8 0), .lit (.int .u8 5), .lit (.int .u8 10), .lit (.int .u8 15)], .agg [.lit (.int .u8 1), .lit (.int .u8 6), .lit (.int .u8 11), .lit (.int .u8 12)], .agg [.lit (.int .u8 2), .lit (.int .u8 7), .lit (.int .u8 8), .lit (.int .u8 13)], .agg [.lit (.int .u8 3), .lit (.int .u8 4), .lit (.int .u8 9), .lit (.int .u8 14)]]

/-- 'sutlerlaw16.DigestSums': WHATEVER THE INPUT: true; the input reads as it did. -/
def digestSumsSpec : ChangeSpec := { name := "digestSums", fn := fun _ => fun
  | [d] => { results := [.lit (.bool true)], args := [d] }
  | _ => none }
def digestSumsRow : OpenClaim := { program := "ytkcifjgfgommoaadoor", sum := "5dc1ba2d5ce648d913c861d851394847ecb3e7a89a2a4c1d76a59501814522c4", func := "sutler/sutlerlaw16.DigestSums", spec := "digestSums", named := ["sutler/digest.iv", "sutler/digest.rows", "sutler/digest.lanes"], apart := false, laid := [("sutler/digest.iv", laid_sutler_digest_iv), ("sutler/digest.rows", laid_sutler_digest_rows), ("sutler/digest.lanes", laid_sutler_digest_lanes)] }
def DigestSumsSaid : Prop := digestSumsRow.holds Tryd.pinned (OpenSpec.ofChange digestSumsSpec)

/-- ITS FALSE NEIGHBOUR: 'it returns false'. Refute it at one input. -/
def digestSumsWrong : ChangeSpec := { name := "digestSums", fn := fun _ => fun
  | [d] => { results := [.lit (.bool false)], args := [d] }
  | _ => none }
def DigestSumsWrongFalsely : Prop := digestSumsRow.holds Tryd.pinned (OpenSpec.ofChange digestSumsWrong)

/-- 'sutlerlaw16.DigestKeys': WHATEVER THE INPUT: true; the input reads as it did. -/
def digestKeysSpec : ChangeSpec := { name := "digestKeys", fn := fun _ => fun
  | [d1, d2] => { results := [.lit (.bool true)], args := [d1, d2] }
  | _ => none }
def digestKeysRow : OpenClaim := { program := "ytkcifjgfgommoaadoor", sum := "5dc1ba2d5ce648d913c861d851394847ecb3e7a89a2a4c1d76a59501814522c4", func := "sutler/sutlerlaw16.DigestKeys", spec := "digestKeys", named := ["sutler/digest.iv", "sutler/digest.rows", "sutler/digest.lanes"], apart := false, laid := [("sutler/digest.iv", laid_sutler_digest_iv), ("sutler/digest.rows", laid_sutler_digest_rows), ("sutler/digest.lanes", laid_sutler_digest_lanes)] }
def DigestKeysSaid : Prop := digestKeysRow.holds Tryd.pinned (OpenSpec.ofChange digestKeysSpec)

/-- ITS FALSE NEIGHBOUR: 'it returns false'. Refute it at one input. -/
def digestKeysWrong : ChangeSpec := { name := "digestKeys", fn := fun _ => fun
  | [d1, d2] => { results := [.lit (.bool false)], args := [d1, d2] }
  | _ => none }
def DigestKeysWrongFalsely : Prop := digestKeysRow.holds Tryd.pinned (OpenSpec.ofChange digestKeysWrong)

/-- 'sutlerlaw16.DigestPlain': WHATEVER THE INPUT: true; the input reads as it did. -/
def digestPlainSpec : ChangeSpec := { name := "digestPlain", fn := fun _ => fun
  | [d] => { results := [.lit (.bool true)], args := [d] }
  | _ => none }
def digestPlainRow : OpenClaim := { program := "ytkcifjgfgommoaadoor", sum := "5dc1ba2d5ce648d913c861d851394847ecb3e7a89a2a4c1d76a59501814522c4", func := "sutler/sutlerlaw16.DigestPlain", spec := "digestPlain", named := ["sutler/digest.iv", "sutler/digest.rows", "sutler/digest.lanes"], apart := false, laid := [("sutler/digest.iv", laid_sutler_digest_iv), ("sutler/digest.rows", laid_sutler_digest_rows), ("sutler/digest.lanes", laid_sutler_digest_lanes)] }
def DigestPlainSaid : Prop := digestPlainRow.holds Tryd.pinned (OpenSpec.ofChange digestPlainSpec)

/-- ITS FALSE NEIGHBOUR: 'it returns false'. Refute it at one input. -/
def digestPlainWrong : ChangeSpec := { name := "digestPlain", fn := fun _ => fun
  | [d] => { results := [.lit (.bool false)], args := [d] }
  | _ => none }
def DigestPlainWrongFalsely : Prop := digestPlainRow.holds Tryd.pinned (OpenSpec.ofChange digestPlainWrong)

/-- 'sutlerlaw16.DigestBack': WHATEVER THE INPUT: true; the input reads as it did. -/
def digestBackSpec : ChangeSpec := { name := "digestBack", fn := fun _ => fun
  | [d1, d2] => { results := [.lit (.bool true)], args := [d1, d2] }
  | _ => none }
def digestBackRow : OpenClaim := { program := "ytkcifjgfgommoaadoor", sum := "5dc1ba2d5ce648d913c861d851394847ecb3e7a89a2a4c1d76a59501814522c4", func := "sutler/sutlerlaw16.DigestBack", spec := "digestBack", inPlace := ["internal/bytealg.IndexByteString"], named := ["sutler/digest.iv", "sutler/digest.rows", "sutler/digest.lanes"], apart := false, laid := [("sutler/digest.iv", laid_sutler_digest_iv), ("sutler/digest.rows", laid_sutler_digest_rows), ("sutler/digest.lanes", laid_sutler_digest_lanes)] }
def DigestBackSaid : Prop := digestBackRow.holds Tryd.pinned (OpenSpec.ofChange digestBackSpec)

/-- ITS FALSE NEIGHBOUR: 'it returns false'. Refute it at one input. -/
def digestBackWrong : ChangeSpec := { name := "digestBack", fn := fun _ => fun
  | [d1, d2] => { results := [.lit (.bool false)], args := [d1, d2] }
  | _ => none }
def DigestBackWrongFalsely : Prop := digestBackRow.holds Tryd.pinned (OpenSpec.ofChange digestBackWrong)

/-- 'sutlerlaw16.DigestTexts': WHATEVER THE INPUT: true; the input reads as it did. -/
def digestTextsSpec : ChangeSpec := { name := "digestTexts", fn := fun _ => fun
  | [d1, d2] => { results := [.lit (.bool true)], args := [d1, d2] }
  | _ => none }
def digestTextsRow : OpenClaim := { program := "ytkcifjgfgommoaadoor", sum := "5dc1ba2d5ce648d913c861d851394847ecb3e7a89a2a4c1d76a59501814522c4", func := "sutler/sutlerlaw16.DigestTexts", spec := "digestTexts", inPlace := ["internal/bytealg.IndexByteString"], named := ["sutler/digest.iv", "sutler/digest.rows", "sutler/digest.lanes"], apart := false, laid := [("sutler/digest.iv", laid_sutler_digest_iv), ("sutler/digest.rows", laid_sutler_digest_rows), ("sutler/digest.lanes", laid_sutler_digest_lanes)] }
def DigestTextsSaid : Prop := digestTextsRow.holds Tryd.pinned (OpenSpec.ofChange digestTextsSpec)

/-- ITS FALSE NEIGHBOUR: 'it returns false'. Refute it at one input. -/
def digestTextsWrong : ChangeSpec := { name := "digestTexts", fn := fun _ => fun
  | [d1, d2] => { results := [.lit (.bool false)], args := [d1, d2] }
  | _ => none }
def DigestTextsWrongFalsely : Prop := digestTextsRow.holds Tryd.pinned (OpenSpec.ofChange digestTextsWrong)

/- THE SECOND FORM. 'bulk': how many values and letters a reading holds, each counted each time it is reached (what is shared counts as often as it is met; a slice's spare places count too). A statement '..UptoSaid' is the law's where the arguments, and the package variables that the reading takes, are together of bulk at most 1048576: NARROWER than '..Said'. Prove '..Said' where nothing that the law and all that it calls make is longer than what came in: it says more and counts as full. Else prove '..UptoSaid'. A law counts once. -/
mutual
def uptoBulk {H : Type} : DataW H → Nat
  | .lit (.string bytes) => bytes.length + 1
  | .lit _ => 1
  | .nil => 1
  | .ptr d => uptoBulk d + 1
  | .slice elems spare => uptoBulkAll elems + uptoBulkAll spare + 1
  | .agg parts => uptoBulkAll parts + 1
  | .iface _ d => uptoBulk d + 1
  | .map entries => uptoBulkEntries entries + 1
  | .held _ => 1
def uptoBulkAll {H : Type} : List (DataW H) → Nat
  | [] => 0
  | d :: r => uptoBulk d + uptoBulkAll r
def uptoBulkEntries {H : Type} : List (Lit × DataW H) → Nat
  | [] => 0
  | x :: r => uptoBulkEntry x + uptoBulkEntries r
def uptoBulkEntry {H : Type} : Lit × DataW H → Nat
  | (.string bytes, d) => bytes.length + uptoBulk d + 1
  | (_, d) => uptoBulk d + 1
 end
def uptoSmall : (H : Type) → List (DataW H) → Bool := fun _ ds => decide (uptoBulkAll ds ≤ 1048576)
def OpenSpec.upto (s : _root_.Go.ChangeSpec) : _root_.Go.OpenSpec := { _root_.Go.OpenSpec.ofChange s with cond := some uptoSmall }

/-- 'sutlerlaw16.DigestSums', WHERE WHAT IT READS IS OF BULK AT MOST 1048576: true; the input reads as it did. -/
def digestSumsUptoRow : OpenClaim := { program := "ytkcifjgfgommoaadoor", sum := "5dc1ba2d5ce648d913c861d851394847ecb3e7a89a2a4c1d76a59501814522c4", func := "sutler/sutlerlaw16.DigestSums", spec := "digestSums", named := ["sutler/digest.iv", "sutler/digest.rows", "sutler/digest.lanes"], apart := false, laid := [("sutler/digest.iv", laid_sutler_digest_iv), ("sutler/digest.rows", laid_sutler_digest_rows), ("sutler/digest.lanes", laid_sutler_digest_lanes)], narrowed := true }
def DigestSumsUptoSaid : Prop := digestSumsUptoRow.holds Tryd.pinned (OpenSpec.upto digestSumsSpec)

/-- 'sutlerlaw16.DigestKeys', WHERE WHAT IT READS IS OF BULK AT MOST 1048576: true; the input reads as it did. -/
def digestKeysUptoRow : OpenClaim := { program := "ytkcifjgfgommoaadoor", sum := "5dc1ba2d5ce648d913c861d851394847ecb3e7a89a2a4c1d76a59501814522c4", func := "sutler/sutlerlaw16.DigestKeys", spec := "digestKeys", named := ["sutler/digest.iv", "sutler/digest.rows", "sutler/digest.lanes"], apart := false, laid := [("sutler/digest.iv", laid_sutler_digest_iv), ("sutler/digest.rows", laid_sutler_digest_rows), ("sutler/digest.lanes", laid_sutler_digest_lanes)], narrowed := true }
def DigestKeysUptoSaid : Prop := digestKeysUptoRow.holds Tryd.pinned (OpenSpec.upto digestKeysSpec)

/-- 'sutlerlaw16.DigestPlain', WHERE WHAT IT READS IS OF BULK AT MOST 1048576: true; the input reads as it did. -/
def digestPlainUptoRow : OpenClaim := { program := "ytkcifjgfgommoaadoor", sum := "5dc1ba2d5ce648d913c861d851394847ecb3e7a89a2a4c1d76a59501814522c4", func := "sutler/sutlerlaw16.DigestPlain", spec := "digestPlain", named := ["sutler/digest.iv", "sutler/digest.rows", "sutler/digest.lanes"], apart := false, laid := [("sutler/digest.iv", laid_sutler_digest_iv), ("sutler/digest.rows", laid_sutler_digest_rows), ("sutler/digest.lanes", laid_sutler_digest_lanes)], narrowed := true }
def DigestPlainUptoSaid : Prop := digestPlainUptoRow.holds Tryd.pinned (OpenSpec.upto digestPlainSpec)

/-- 'sutlerlaw16.DigestBack', WHERE WHAT IT READS IS OF BULK AT MOST 1048576: true; the input reads as it did. -/
def digestBackUptoRow : OpenClaim := { program := "ytkcifjgfgommoaadoor", sum := "5dc1ba2d5ce648d913c861d851394847ecb3e7a89a2a4c1d76a59501814522c4", func := "sutler/sutlerlaw16.DigestBack", spec := "digestBack", inPlace := ["internal/bytealg.IndexByteString"], named := ["sutler/digest.iv", "sutler/digest.rows", "sutler/digest.lanes"], apart := false, laid := [("sutler/digest.iv", laid_sutler_digest_iv), ("sutler/digest.rows", laid_sutler_digest_rows), ("sutler/digest.lanes", laid_sutler_digest_lanes)], narrowed := true }
def DigestBackUptoSaid : Prop := digestBackUptoRow.holds Tryd.pinned (OpenSpec.upto digestBackSpec)

/-- 'sutlerlaw16.DigestTexts', WHERE WHAT IT READS IS OF BULK AT MOST 1048576: true; the input reads as it did. -/
def digestTextsUptoRow : OpenClaim := { program := "ytkcifjgfgommoaadoor", sum := "5dc1ba2d5ce648d913c861d851394847ecb3e7a89a2a4c1d76a59501814522c4", func := "sutler/sutlerlaw16.DigestTexts", spec := "digestTexts", inPlace := ["internal/bytealg.IndexByteString"], named := ["sutler/digest.iv", "sutler/digest.rows", "sutler/digest.lanes"], apart := false, laid := [("sutler/digest.iv", laid_sutler_digest_iv), ("sutler/digest.rows", laid_sutler_digest_rows), ("sutler/digest.lanes", laid_sutler_digest_lanes)], narrowed := true }
def DigestTextsUptoSaid : Prop := digestTextsUptoRow.holds Tryd.pinned (OpenSpec.upto digestTextsSpec)

end Rows
end Go.Proofs.YtkcifjgfgommoaaDoor
