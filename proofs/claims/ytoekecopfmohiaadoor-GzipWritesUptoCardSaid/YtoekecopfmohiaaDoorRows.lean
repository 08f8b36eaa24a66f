/-
  NARROWER THAN 'FOR EVERY INPUT', by the rows' own cells (each row's printed sentence says how): FlateShort: laid · FlateBounds: laid · FlateRuns: laid · FlateBack: laid · GzipShort: laid · GzipSums: laid · GzipWrites: laid · GzipBack: laid · GzipFinds: laid.
  DERIVED. THE GIVEN ROWS OF THIS SEAT. 9 by the template 'for every input the law returns true; each argument reads behind the call as it read before'; 0 by the template 'total and deterministic' (their statements: YtoekecopfmohiaaDoorTotals.lean).
  GIVEN WITH THE SEED: the statements are not yours to turn. If you find one false, say at which input.
  Laid BY PROGRAM, IN A SANDBOX (cutbox-rows.mjs): the forced cells as the released guide's own fill.sh prints them over the translation ff838c60efd3c1c3… (all of the seat's roots in one cut). By AI agents, Wed Nov 11 2026. No macro, syntax, notation, axiom, sorry.
-/
import Derived.Test.YtoekecopfmohiaaDoorChecked
import GoSem.Claim
import GoSem.ClaimJoined
import GoSem.ClaimMapViews
import Derived.JoinedTies
import Derived.KernelRfl
namespace Go.Proofs.YtoekecopfmohiaaDoor
/- THE CELL 'sum', in the pinned program and in every row, IS THE sha256 OF THE DUMP (.gsa) THAT YtoekecopfmohiaaDoorProg.lean LOADS. Nothing in Lean hashes anything: it is a label: what it is worth is what the hold of that sum in a sandbox is worth. -/
noncomputable def Tryd.pinned : Pinned := { name := "ytoekecopfmohiaadoor", sum := "ff838c60efd3c1c33108fc8279f9fc4fe58756651d9858ce75cfdb3d2393fe0c", checked := Tryd.checked }
namespace Rows
def none {H : Type} : Left H := { results := [], args := [] }

/- WHAT THE LISTED PACKAGE-LEVEL VARIABLES READ AS WHEN THE CALL BEGINS. Each datum BY PROGRAM (the guide's laid-datum.mjs) off the statement by which the dump's own 'gosem.cut.vars' lays the variable. In a bare row this is a premise. The card (YtoekecopfmohiaaDoorCards.lean) ties it to the program's text. -/
def laid_sutler_flate_lengths {H : Type} : DataW H := .agg [.agg [.lit (.int .i64 3), .lit (.int .i64 0)], .agg [.lit (.int .i64 4), .lit (.int .i64 0)], .agg [.lit (.int .i64 5), .lit (.int .i64 0)], .agg [.lit (.int .i64 6), .lit (.int .i64 0)], .agg [.lit (.int .i64 7), .lit (.int .i64 0)], .agg [.lit (.int .i64 8), .lit (.int .i64 0)], .agg [.lit (.int .i64 9), .lit (.int .i64 0)], .agg [.lit (.int .i64 10), .lit (.int .i64 0)], .agg [.lit (.int .i64 11), .lit (.int .i64 1)], .agg [.lit (.int .i64 13), .lit (.int .i64 1)], .agg [.lit (.int .i64 15), .lit (.int .i64 1)], .agg [.lit (.int .i64 17), .lit (.int .i64 1)], .agg [.lit (.int .i64 19), .lit (.int .i64 2)], .agg [.lit (.int .i64 23), .lit (.int .i64 2)], .agg [.lit (.int .i64 27), .lit (.int .i64 2)], .agg [.lit (.int .i64 31), .lit (.int .i64 2)], .agg [.lit (.int .i64 35), .lit (.int .i64 3)], .agg [.lit (.int .i64 43), .lit (.int .i64 3)], .agg [.lit (.int .i64 51), .lit (.int .i64 3)], .agg [.lit (.int .i64 59), .lit (.int .i64 3)], .agg [.lit (.int .i64 67), .lit (.int .i64 4)], .agg [.lit (.int .i64 83), .lit (.int .i64 4)], .agg [.lit (.int .i64 99), .lit (.int .i64 4)], .agg [.lit (.int .i64 115), .lit (.int .i64 4)], .agg [.lit (.int .i64 131), .lit (.int .i64 5)], .agg [.lit (.int .i64 163), .lit (.int .i64 5)], .agg [.lit (.int .i64 195), .lit (.int .i64 5)], .agg [.lit (.int .i64 227), .lit (.int .i64 5)], .agg [.lit (.int .i64 258), .lit (.int .i64 0)]]
def laid_sutler_flate_distances {H : Type} : DataW H := .agg [.agg [.lit (.int .i64 1), .lit (.int .i64 0)], .agg [.lit (.int .i64 2), .lit (.int .i64 0)], .agg [.lit (.int .i64 3), .lit (.int .i64 0)], .agg [.lit (.int .i64 4), .lit (.int .i64 0)], .agg [.lit (.int .i64 5), .lit (.int .i64 1)], .agg [.lit (.int .i64 7), .lit (.int .i64 1)], .agg [.lit (.int .i64 9), .lit (.int .i64 2)], .agg [.lit (.int .i64 13), .lit (.int .i64 2)], .agg [.lit (.int .i64 17), .lit (.int .i64 3)], .agg [.lit (.int .i64 25), .lit (.int .i64 3)], .agg [.lit (.int .i64 33), .lit (.int .i64 4)], .agg [.lit (.int .i64 49), .lit (.int .i64 4)], .agg [.lit (.int .i64 65), .lit (.int .i64 5)], .agg [.lit (.int .i64 97), .lit (.int .i64 5)], .agg [.lit (.int .i64 129), .lit (.int .i64 6)], .agg [.lit (.int .i64 193), .lit (.int .i64 6)], .agg [.lit (.int .i64 257), .lit (.int .i64 7)], .agg [.lit (.int .i64 385), .lit (.int .i64 7)], .agg [.lit (.int .i64 513), .lit (.int .i64 8)], .agg [.lit (.int .i64 769), .lit (.int .i64 8)], .agg [.lit (.int .i64 1025), .lit (.int .i64 9)], .agg [.lit (.int .i64 1537), .lit (.int .i64 9)], .agg [.lit (.int .i64 2049), .lit (.int .i64 10)], .agg [.lit (.int .i64 3073), .lit (.int .i64 10)], .agg [.lit (.int .i64 4097), .lit (.int .i64 11)], .agg [.lit (.int .i64 6145), .lit (.int .i64 11)], .agg [.lit (.int .i64 8193), .lit (.int .i64 12)], .agg [.lit (.int .i64 12289), .lit (.int .i64 12)], .agg [.lit (.int .i64 16385), .lit (.int .i64 13)], .agg [.lit (.int .i64 24577), .lit (.int .i64 13)]]
def laid_sutler_flate_order {H : Type} : DataW H := .agg [.lit (.int .i64 16), .lit (.int .i64 17), .lit (.int .i64 18), .lit (.int .i64 0), .lit (.int .i64 8), .lit (.int .i64 7), .lit (.int .i64 9), .lit (.int .i64 6), .lit (.int .i64 10), .lit (.int .i64 5), .lit (.int .i64 11), .lit (.int .i64 4), .lit (.int .i64 12), .lit (.int .i64 3), .lit (.int .i64 13), .lit (.int .i64 2), .lit (.int .i64 14), .lit (.int .i64 1), .lit (.int .i64 15)]
def laid_sutler_crc_half {H : Type} : DataW H := .agg [.lit (.int .u32 0), .lit (.int .u32 498536548), .lit (.int .u32 997073096), .lit (.int .u32 651767980), .lit (.int .u32 1994146192), .lit (.int .u32 1802195444), .lit (.int .u32 1303535960), .lit (.int .u32 1342533948), .lit (.int .u32 3988292384), .lit (.int .u32 4027552580), .lit (.int .u32 3604390888), .lit (.int .u32 3412177804), .lit (.int .u32 2607071920), .lit (.int .u32 2262029012), .lit (.int .u32 2685067896), .lit (.int .u32 3183342108)]
def laid_sutler_gzip_magic {H : Type} : DataW H := .agg [.lit (.int .u8 31), .lit (.int .u8 139), .lit (.int .u8 8), .lit (.int .u8 0), .lit (.int .u8 0), .lit (.int .u8 0), .lit (.int .u8 0), .lit (.int .u8 0), .lit (.int .u8 0), .lit (.int .u8 0)]

/-- 'sutlerlaw11.FlateShort': WHATEVER THE INPUT: true; the input reads as it did. -/
def flateShortSpec : ChangeSpec := { name := "flateShort", fn := fun _ => fun
  | [d1, d2, d3, d4] => { results := [.lit (.bool true)], args := [d1, d2, d3, d4] }
  | _ => none }
def flateShortRow : OpenClaim := { program := "ytoekecopfmohiaadoor", sum := "ff838c60efd3c1c33108fc8279f9fc4fe58756651d9858ce75cfdb3d2393fe0c", func := "sutler/sutlerlaw11.FlateShort", spec := "flateShort", unfollowed := true, recurses := true, named := ["sutler/flate.order", "sutler/flate.lengths", "sutler/flate.distances"], apart := false, laid := [("sutler/flate.lengths", laid_sutler_flate_lengths), ("sutler/flate.distances", laid_sutler_flate_distances), ("sutler/flate.order", laid_sutler_flate_order)] }
def FlateShortSaid : Prop := flateShortRow.holds Tryd.pinned (OpenSpec.ofChange flateShortSpec)

/-- ITS FALSE NEIGHBOUR: 'it returns false'. Refute it at one input. -/
def flateShortWrong : ChangeSpec := { name := "flateShort", fn := fun _ => fun
  | [d1, d2, d3, d4] => { results := [.lit (.bool false)], args := [d1, d2, d3, d4] }
  | _ => none }
def FlateShortWrongFalsely : Prop := flateShortRow.holds Tryd.pinned (OpenSpec.ofChange flateShortWrong)

/-- 'sutlerlaw11.FlateBounds': WHATEVER THE INPUT: true; the input reads as it did. -/
def flateBoundsSpec : ChangeSpec := { name := "flateBounds", fn := fun _ => fun
  | [d1, d2, d3] => { results := [.lit (.bool true)], args := [d1, d2, d3] }
  | _ => none }
def flateBoundsRow : OpenClaim := { program := "ytoekecopfmohiaadoor", sum := "ff838c60efd3c1c33108fc8279f9fc4fe58756651d9858ce75cfdb3d2393fe0c", func := "sutler/sutlerlaw11.FlateBounds", spec := "flateBounds", unfollowed := true, recurses := true, named := ["sutler/flate.order", "sutler/flate.lengths", "sutler/flate.distances"], apart := false, laid := [("sutler/flate.lengths", laid_sutler_flate_lengths), ("sutler/flate.distances", laid_sutler_flate_distances), ("sutler/flate.order", laid_sutler_flate_order)] }
def FlateBoundsSaid : Prop := flateBoundsRow.holds Tryd.pinned (OpenSpec.ofChange flateBoundsSpec)

/-- ITS FALSE NEIGHBOUR: 'it returns false'. Refute it at one input. -/
def flateBoundsWrong : ChangeSpec := { name := "flateBounds", fn := fun _ => fun
  | [d1, d2, d3] => { results := [.lit (.bool false)], args := [d1, d2, d3] }
  | _ => none }
def FlateBoundsWrongFalsely : Prop := flateBoundsRow.holds Tryd.pinned (OpenSpec.ofChange flateBoundsWrong)

/-- 'sutlerlaw11.FlateRuns': WHATEVER THE INPUT: true; the input reads as it did. -/
def flateRunsSpec : ChangeSpec := { name := "flateRuns", fn := fun _ => fun
  | [d1, d2] => { results := [.lit (.bool true)], args := [d1, d2] }
  | _ => none }
def flateRunsRow : OpenClaim := { program := "ytoekecopfmohiaadoor", sum := "ff838c60efd3c1c33108fc8279f9fc4fe58756651d9858ce75cfdb3d2393fe0c", func := "sutler/sutlerlaw11.FlateRuns", spec := "flateRuns", unfollowed := true, recurses := true, named := ["sutler/flate.order", "sutler/flate.lengths", "sutler/flate.distances"], apart := false, laid := [("sutler/flate.lengths", laid_sutler_flate_lengths), ("sutler/flate.distances", laid_sutler_flate_distances), ("sutler/flate.order", laid_sutler_flate_order)] }
def FlateRunsSaid : Prop := flateRunsRow.holds Tryd.pinned (OpenSpec.ofChange flateRunsSpec)

/-- ITS FALSE NEIGHBOUR: 'it returns false'. Refute it at one input. -/
def flateRunsWrong : ChangeSpec := { name := "flateRuns", fn := fun _ => fun
  | [d1, d2] => { results := [.lit (.bool false)], args := [d1, d2] }
  | _ => none }
def FlateRunsWrongFalsely : Prop := flateRunsRow.holds Tryd.pinned (OpenSpec.ofChange flateRunsWrong)

/-- 'sutlerlaw11.FlateBack': WHATEVER THE INPUT: true; the input reads as it did. -/
def flateBackSpec : ChangeSpec := { name := "flateBack", fn := fun _ => fun
  | [d1, d2, d3] => { results := [.lit (.bool true)], args := [d1, d2, d3] }
  | _ => none }
def flateBackRow : OpenClaim := { program := "ytoekecopfmohiaadoor", sum := "ff838c60efd3c1c33108fc8279f9fc4fe58756651d9858ce75cfdb3d2393fe0c", func := "sutler/sutlerlaw11.FlateBack", spec := "flateBack", unfollowed := true, recurses := true, named := ["sutler/flate.order", "sutler/flate.lengths", "sutler/flate.distances"], apart := false, laid := [("sutler/flate.lengths", laid_sutler_flate_lengths), ("sutler/flate.distances", laid_sutler_flate_distances), ("sutler/flate.order", laid_sutler_flate_order)] }
def FlateBackSaid : Prop := flateBackRow.holds Tryd.pinned (OpenSpec.ofChange flateBackSpec)

/-- ITS FALSE NEIGHBOUR: 'it returns false'. Refute it at one input. -/
def flateBackWrong : ChangeSpec := { name := "flateBack", fn := fun _ => fun
  | [d1, d2, d3] => { results := [.lit (.bool false)], args := [d1, d2, d3] }
  | _ => none }
def FlateBackWrongFalsely : Prop := flateBackRow.holds Tryd.pinned (OpenSpec.ofChange flateBackWrong)

/-- 'sutlerlaw12.GzipShort': WHATEVER THE INPUT: true; the input reads as it did. -/
def gzipShortSpec : ChangeSpec := { name := "gzipShort", fn := fun _ => fun
  | [d1, d2, d3, d4, d5] => { results := [.lit (.bool true)], args := [d1, d2, d3, d4, d5] }
  | _ => none }
def gzipShortRow : OpenClaim := { program := "ytoekecopfmohiaadoor", sum := "ff838c60efd3c1c33108fc8279f9fc4fe58756651d9858ce75cfdb3d2393fe0c", func := "sutler/sutlerlaw12.GzipShort", spec := "gzipShort", inPlace := ["internal/bytealg.IndexByteString", "internal/bytealg.IndexByte"], unfollowed := true, recurses := true, named := ["sutler/gzip.magic", "sutler/crc.half", "sutler/flate.lengths", "sutler/flate.order", "sutler/flate.distances"], apart := false, laid := [("sutler/crc.half", laid_sutler_crc_half), ("sutler/flate.lengths", laid_sutler_flate_lengths), ("sutler/flate.distances", laid_sutler_flate_distances), ("sutler/flate.order", laid_sutler_flate_order), ("sutler/gzip.magic", laid_sutler_gzip_magic)] }
def GzipShortSaid : Prop := gzipShortRow.holds Tryd.pinned (OpenSpec.ofChange gzipShortSpec)

/-- ITS FALSE NEIGHBOUR: 'it returns false'. Refute it at one input. -/
def gzipShortWrong : ChangeSpec := { name := "gzipShort", fn := fun _ => fun
  | [d1, d2, d3, d4, d5] => { results := [.lit (.bool false)], args := [d1, d2, d3, d4, d5] }
  | _ => none }
def GzipShortWrongFalsely : Prop := gzipShortRow.holds Tryd.pinned (OpenSpec.ofChange gzipShortWrong)

/-- 'sutlerlaw12.GzipSums': WHATEVER THE INPUT: true; the input reads as it did. -/
def gzipSumsSpec : ChangeSpec := { name := "gzipSums", fn := fun _ => fun
  | [d] => { results := [.lit (.bool true)], args := [d] }
  | _ => none }
def gzipSumsRow : OpenClaim := { program := "ytoekecopfmohiaadoor", sum := "ff838c60efd3c1c33108fc8279f9fc4fe58756651d9858ce75cfdb3d2393fe0c", func := "sutler/sutlerlaw12.GzipSums", spec := "gzipSums", inPlace := ["internal/bytealg.IndexByteString", "internal/bytealg.IndexByte"], unfollowed := true, recurses := true, named := ["sutler/gzip.magic", "sutler/crc.half", "sutler/flate.lengths", "sutler/flate.order", "sutler/flate.distances"], apart := false, laid := [("sutler/crc.half", laid_sutler_crc_half), ("sutler/flate.lengths", laid_sutler_flate_lengths), ("sutler/flate.distances", laid_sutler_flate_distances), ("sutler/flate.order", laid_sutler_flate_order), ("sutler/gzip.magic", laid_sutler_gzip_magic)] }
def GzipSumsSaid : Prop := gzipSumsRow.holds Tryd.pinned (OpenSpec.ofChange gzipSumsSpec)

/-- ITS FALSE NEIGHBOUR: 'it returns false'. Refute it at one input. -/
def gzipSumsWrong : ChangeSpec := { name := "gzipSums", fn := fun _ => fun
  | [d] => { results := [.lit (.bool false)], args := [d] }
  | _ => none }
def GzipSumsWrongFalsely : Prop := gzipSumsRow.holds Tryd.pinned (OpenSpec.ofChange gzipSumsWrong)

/-- 'sutlerlaw12.GzipWrites': WHATEVER THE INPUT: true; the input reads as it did. -/
def gzipWritesSpec : ChangeSpec := { name := "gzipWrites", fn := fun _ => fun
  | [d1, d2, d3, d4, d5] => { results := [.lit (.bool true)], args := [d1, d2, d3, d4, d5] }
  | _ => none }
def gzipWritesRow : OpenClaim := { program := "ytoekecopfmohiaadoor", sum := "ff838c60efd3c1c33108fc8279f9fc4fe58756651d9858ce75cfdb3d2393fe0c", func := "sutler/sutlerlaw12.GzipWrites", spec := "gzipWrites", inPlace := ["internal/bytealg.IndexByteString", "internal/bytealg.IndexByte"], unfollowed := true, recurses := true, named := ["sutler/gzip.magic", "sutler/crc.half", "sutler/flate.lengths", "sutler/flate.order", "sutler/flate.distances"], apart := false, laid := [("sutler/crc.half", laid_sutler_crc_half), ("sutler/flate.lengths", laid_sutler_flate_lengths), ("sutler/flate.distances", laid_sutler_flate_distances), ("sutler/flate.order", laid_sutler_flate_order), ("sutler/gzip.magic", laid_sutler_gzip_magic)] }
def GzipWritesSaid : Prop := gzipWritesRow.holds Tryd.pinned (OpenSpec.ofChange gzipWritesSpec)

/-- ITS FALSE NEIGHBOUR: 'it returns false'. Refute it at one input. -/
def gzipWritesWrong : ChangeSpec := { name := "gzipWrites", fn := fun _ => fun
  | [d1, d2, d3, d4, d5] => { results := [.lit (.bool false)], args := [d1, d2, d3, d4, d5] }
  | _ => none }
def GzipWritesWrongFalsely : Prop := gzipWritesRow.holds Tryd.pinned (OpenSpec.ofChange gzipWritesWrong)

/-- 'sutlerlaw12.GzipBack': WHATEVER THE INPUT: true; the input reads as it did. -/
def gzipBackSpec : ChangeSpec := { name := "gzipBack", fn := fun _ => fun
  | [d1, d2, d3, d4, d5] => { results := [.lit (.bool true)], args := [d1, d2, d3, d4, d5] }
  | _ => none }
def gzipBackRow : OpenClaim := { program := "ytoekecopfmohiaadoor", sum := "ff838c60efd3c1c33108fc8279f9fc4fe58756651d9858ce75cfdb3d2393fe0c", func := "sutler/sutlerlaw12.GzipBack", spec := "gzipBack", inPlace := ["internal/bytealg.IndexByteString", "internal/bytealg.IndexByte"], unfollowed := true, recurses := true, named := ["sutler/gzip.magic", "sutler/crc.half", "sutler/flate.lengths", "sutler/flate.order", "sutler/flate.distances"], apart := false, laid := [("sutler/crc.half", laid_sutler_crc_half), ("sutler/flate.lengths", laid_sutler_flate_lengths), ("sutler/flate.distances", laid_sutler_flate_distances), ("sutler/flate.order", laid_sutler_flate_order), ("sutler/gzip.magic", laid_sutler_gzip_magic)] }
def GzipBackSaid : Prop := gzipBackRow.holds Tryd.pinned (OpenSpec.ofChange gzipBackSpec)

/-- ITS FALSE NEIGHBOUR: 'it returns false'. Refute it at one input. -/
def gzipBackWrong : ChangeSpec := { name := "gzipBack", fn := fun _ => fun
  | [d1, d2, d3, d4, d5] => { results := [.lit (.bool false)], args := [d1, d2, d3, d4, d5] }
  | _ => none }
def GzipBackWrongFalsely : Prop := gzipBackRow.holds Tryd.pinned (OpenSpec.ofChange gzipBackWrong)

/-- 'sutlerlaw12.GzipFinds': WHATEVER THE INPUT: true; the input reads as it did. -/
def gzipFindsSpec : ChangeSpec := { name := "gzipFinds", fn := fun _ => fun
  | [d1, d2, d3] => { results := [.lit (.bool true)], args := [d1, d2, d3] }
  | _ => none }
def gzipFindsRow : OpenClaim := { program := "ytoekecopfmohiaadoor", sum := "ff838c60efd3c1c33108fc8279f9fc4fe58756651d9858ce75cfdb3d2393fe0c", func := "sutler/sutlerlaw12.GzipFinds", spec := "gzipFinds", inPlace := ["internal/bytealg.IndexByteString", "internal/bytealg.IndexByte"], unfollowed := true, recurses := true, named := ["sutler/gzip.magic", "sutler/crc.half", "sutler/flate.lengths", "sutler/flate.order", "sutler/flate.distances"], apart := false, laid := [("sutler/crc.half", laid_sutler_crc_half), ("sutler/flate.lengths", laid_sutler_flate_lengths), ("sutler/flate.distances", laid_sutler_flate_distances), ("sutler/flate.order", laid_sutler_flate_order), ("sutler/gzip.magic", laid_sutler_gzip_magic)] }
def GzipFindsSaid : Prop := gzipFindsRow.holds Tryd.pinned (OpenSpec.ofChange gzipFindsSpec)

/-- ITS FALSE NEIGHBOUR: 'it returns false'. Refute it at one input. -/
def gzipFindsWrong : ChangeSpec := { name := "gzipFinds", fn := fun _ => fun
  | [d1, d2, d3] => { results := [.lit (.bool false)], args := [d1, d2, d3] }
  | _ => none }
def GzipFindsWrongFalsely : Prop := gzipFindsRow.holds Tryd.pinned (OpenSpec.ofChange gzipFindsWrong)

/- THE SECOND FORM. 'bulk': how many values and letters a reading holds, each counted each time it is reached (what is shared counts as often as it is met; a slice's spare places count too). A statement '..UptoSaid' is the law's where the arguments, and the package variables that the reading takes, are together of bulk at most 1048576: NARROWER than '..Said'. Prove '..Said' where nothing that the law and all that it calls make is longer than what came in: it says more and counts as full. Else prove '..UptoSaid'. A law counts once. -/
mutual
def uptoBulk {H : Type} : DataW H → Nat
  | .lit (.string bytes) => bytes.length + 1
  | .lit _ => 1
  | .nil => 1
  | .ptr d => uptoBulk d + 1
  | .slice elems spare => uptoBulkAll elems + uptoBulkAll spare + 1
  | .agg parts => uptoBulkAll parts + 1
  | .iface _ d => uptoBulk d + 1
  | .map entries => uptoBulkEntries entries + 1
  | .held _ => 1
def uptoBulkAll {H : Type} : List (DataW H) → Nat
  | [] => 0
  | d :: r => uptoBulk d + uptoBulkAll r
def uptoBulkEntries {H : Type} : List (Lit × DataW H) → Nat
  | [] => 0
  | x :: r => uptoBulkEntry x + uptoBulkEntries r
def uptoBulkEntry {H : Type} : Lit × DataW H → Nat
  | (.string bytes, d) => bytes.length + uptoBulk d + 1
  | (_, d) => uptoBulk d + 1
 end
def uptoSmall : (H : Type) → List (DataW H) → Bool := fun _ ds => decide (uptoBulkAll ds ≤ 1048576)
def OpenSpec.upto (s : _root_.Go.ChangeSpec) : _root_.Go.OpenSpec := { _root_.Go.OpenSpec.ofChange s with cond := some uptoSmall }

/-- 'sutlerlaw11.FlateShort', WHERE WHAT IT READS IS OF BULK AT MOST 1048576: true; the input reads as it did. -/
def flateShortUptoRow : OpenClaim := { program := "ytoekecopfmohiaadoor", sum := "ff838c60efd3c1c33108fc8279f9fc4fe58756651d9858ce75cfdb3d2393fe0c", func := "sutler/sutlerlaw11.FlateShort", spec := "flateShort", unfollowed := true, recurses := true, named := ["sutler/flate.order", "sutler/flate.lengths", "sutler/flate.distances"], apart := false, laid := [("sutler/flate.lengths", laid_sutler_flate_lengths), ("sutler/flate.distances", laid_sutler_flate_distances), ("sutler/flate.order", laid_sutler_flate_order)], narrowed := true }
def FlateShortUptoSaid : Prop := flateShortUptoRow.holds Tryd.pinned (OpenSpec.upto flateShortSpec)

/-- 'sutlerlaw11.FlateBounds', WHERE WHAT IT READS IS OF BULK AT MOST 1048576: true; the input reads as it did. -/
def flateBoundsUptoRow : OpenClaim := { program := "ytoekecopfmohiaadoor", sum := "ff838c60efd3c1c33108fc8279f9fc4fe58756651d9858ce75cfdb3d2393fe0c", func := "sutler/sutlerlaw11.FlateBounds", spec := "flateBounds", unfollowed := true, recurses := true, named := ["sutler/flate.order", "sutler/flate.lengths", "sutler/flate.distances"], apart := false, laid := [("sutler/flate.lengths", laid_sutler_flate_lengths), ("sutler/flate.distances", laid_sutler_flate_distances), ("sutler/flate.order", laid_sutler_flate_order)], narrowed := true }
def FlateBoundsUptoSaid : Prop := flateBoundsUptoRow.holds Tryd.pinned (OpenSpec.upto flateBoundsSpec)

/-- 'sutlerlaw11.FlateRuns', WHERE WHAT IT READS IS OF BULK AT MOST 1048576: true; the input reads as it did. -/
def flateRunsUptoRow : OpenClaim := { program := "ytoekecopfmohiaadoor", sum := "ff838c60efd3c1c33108fc8279f9fc4fe58756651d9858ce75cfdb3d2393fe0c", func := "sutler/sutlerlaw11.FlateRuns", spec := "flateRuns", unfollowed := true, recurses := true, named := ["sutler/flate.order", "sutler/flate.lengths", "sutler/flate.distances"], apart := false, laid := [("sutler/flate.lengths", laid_sutler_flate_lengths), ("sutler/flate.distances", laid_sutler_flate_distances), ("sutler/flate.order", laid_sutler_flate_order)], narrowed := true }
def FlateRunsUptoSaid : Prop := flateRunsUptoRow.holds Tryd.pinned (OpenSpec.upto flateRunsSpec)

/-- 'sutlerlaw11.FlateBack', WHERE WHAT IT READS IS OF BULK AT MOST 1048576: true; the input reads as it did. -/
def flateBackUptoRow : OpenClaim := { program := "ytoekecopfmohiaadoor", sum := "ff838c60efd3c1c33108fc8279f9fc4fe58756651d9858ce75cfdb3d2393fe0c", func := "sutler/sutlerlaw11.FlateBack", spec := "flateBack", unfollowed := true, recurses := true, named := ["sutler/flate.order", "sutler/flate.lengths", "sutler/flate.distances"], apart := false, laid := [("sutler/flate.lengths", laid_sutler_flate_lengths), ("sutler/flate.distances", laid_sutler_flate_distances), ("sutler/flate.order", laid_sutler_flate_order)], narrowed := true }
def FlateBackUptoSaid : Prop := flateBackUptoRow.holds Tryd.pinned (OpenSpec.upto flateBackSpec)

/-- 'sutlerlaw12.GzipShort', WHERE WHAT IT READS IS OF BULK AT MOST 1048576: true; the input reads as it did. -/
def gzipShortUptoRow : OpenClaim := { program := "ytoekecopfmohiaadoor", sum := "ff838c60efd3c1c33108fc8279f9fc4fe58756651d9858ce75cfdb3d2393fe0c", func := "sutler/sutlerlaw12.GzipShort", spec := "gzipShort", inPlace := ["internal/bytealg.IndexByteString", "internal/bytealg.IndexByte"], unfollowed := true, recurses := true, named := ["sutler/gzip.magic", "sutler/crc.half", "sutler/flate.lengths", "sutler/flate.order", "sutler/flate.distances"], apart := false, laid := [("sutler/crc.half", laid_sutler_crc_half), ("sutler/flate.lengths", laid_sutler_flate_lengths), ("sutler/flate.distances", laid_sutler_flate_distances), ("sutler/flate.order", laid_sutler_flate_order), ("sutler/gzip.magic", laid_sutler_gzip_magic)], narrowed := true }
def GzipShortUptoSaid : Prop := gzipShortUptoRow.holds Tryd.pinned (OpenSpec.upto gzipShortSpec)

/-- 'sutlerlaw12.GzipSums', WHERE WHAT IT READS IS OF BULK AT MOST 1048576: true; the input reads as it did. -/
def gzipSumsUptoRow : OpenClaim := { program := "ytoekecopfmohiaadoor", sum := "ff838c60efd3c1c33108fc8279f9fc4fe58756651d9858ce75cfdb3d2393fe0c", func := "sutler/sutlerlaw12.GzipSums", spec := "gzipSums", inPlace := ["internal/bytealg.IndexByteString", "internal/bytealg.IndexByte"], unfollowed := true, recurses := true, named := ["sutler/gzip.magic", "sutler/crc.half", "sutler/flate.lengths", "sutler/flate.order", "sutler/flate.distances"], apart := false, laid := [("sutler/crc.half", laid_sutler_crc_half), ("sutler/flate.lengths", laid_sutler_flate_lengths), ("sutler/flate.distances", laid_sutler_flate_distances), ("sutler/flate.order", laid_sutler_flate_order), ("sutler/gzip.magic", laid_sutler_gzip_magic)], narrowed := true }
def GzipSumsUptoSaid : Prop := gzipSumsUptoRow.holds Tryd.pinned (OpenSpec.upto gzipSumsSpec)

/-- 'sutlerlaw12.GzipWrites', WHERE WHAT IT READS IS OF BULK AT MOST 1048576: true; the input reads as it did. -/
def gzipWritesUptoRow : OpenClaim := { program := "ytoekecopfmohiaadoor", sum := "ff838c60efd3c1c33108fc8279f9fc4fe58756651d9858ce75cfdb3d2393fe0c", func := "sutler/sutlerlaw12.GzipWrites", spec := "gzipWrites", inPlace := ["internal/bytealg.IndexByteString", "internal/bytealg.IndexByte"], unfollowed := true, recurses := true, named := ["sutler/gzip.magic", "sutler/crc.half", "sutler/flate.lengths", "sutler/flate.order", "sutler/flate.distances"], apart := false, laid := [("sutler/crc.half", laid_sutler_crc_half), ("sutler/flate.lengths", laid_sutler_flate_lengths), ("sutler/flate.distances", laid_sutler_flate_distances), ("sutler/flate.order", laid_sutler_flate_order), ("sutler/gzip.magic", laid_sutler_gzip_magic)], narrowed := true }
def GzipWritesUptoSaid : Prop := gzipWritesUptoRow.holds Tryd.pinned (OpenSpec.upto gzipWritesSpec)

/-- 'sutlerlaw12.GzipBack', WHERE WHAT IT READS IS OF BULK AT MOST 1048576: true; the input reads as it did. -/
def gzipBackUptoRow : OpenClaim := { program := "ytoekecopfmohiaadoor", sum := "ff838c60efd3c1c33108fc8279f9fc4fe58756651d9858ce75cfdb3d2393fe0c", func := "sutler/sutlerlaw12.GzipBack", spec := "gzipBack", inPlace := ["internal/bytealg.IndexByteString", "internal/bytealg.IndexByte"], unfollowed := true, recurses := true, named := ["sutler/gzip.magic", "sutler/crc.half", "sutler/flate.lengths", "sutler/flate.order", "sutler/flate.distances"], apart := false, laid := [("sutler/crc.half", laid_sutler_crc_half), ("sutler/flate.lengths", laid_sutler_flate_lengths), ("sutler/flate.distances", laid_sutler_flate_distances), ("sutler/flate.order", laid_sutler_flate_order), ("sutler/gzip.magic", laid_sutler_gzip_magic)], narrowed := true }
def GzipBackUptoSaid : Prop := gzipBackUptoRow.holds Tryd.pinned (OpenSpec.upto gzipBackSpec)

/-- 'sutlerlaw12.GzipFinds', WHERE WHAT IT READS IS OF BULK AT MOST 1048576: true; the input reads as it did. -/
def gzipFindsUptoRow : OpenClaim := { program := "ytoekecopfmohiaadoor", sum := "ff838c60efd3c1c33108fc8279f9fc4fe58756651d9858ce75cfdb3d2393fe0c", func := "sutler/sutlerlaw12.GzipFinds", spec := "gzipFinds", inPlace := ["internal/bytealg.IndexByteString", "internal/bytealg.IndexByte"], unfollowed := true, recurses := true, named := ["sutler/gzip.magic", "sutler/crc.half", "sutler/flate.lengths", "sutler/flate.order", "sutler/flate.distances"], apart := false, laid := [("sutler/crc.half", laid_sutler_crc_half), ("sutler/flate.lengths", laid_sutler_flate_lengths), ("sutler/flate.distances", laid_sutler_flate_distances), ("sutler/flate.order", laid_sutler_flate_order), ("sutler/gzip.magic", laid_sutler_gzip_magic)], narrowed := true }
def GzipFindsUptoSaid : Prop := gzipFindsUptoRow.holds Tryd.pinned (OpenSpec.upto gzipFindsSpec)

end Rows
end Go.Proofs.YtoekecopfmohiaaDoor
