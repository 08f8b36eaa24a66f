/-
  No cell of these rows narrows 'for every input' (looked for: loops, veiled, ifaces, maps, wideKeys, modest, calm, conditions, laid).
  DERIVED. THE GIVEN ROWS OF THIS SEAT. 11 by the template 'for every input the law returns true; each argument reads behind the call as it read before'; 0 by the template 'total and deterministic' (their statements: YtnncnjkpjlpodaaTotals.lean).
  GIVEN WITH THE SEED: the statements are not yours to turn. If you find one false, say at which input.
  Laid BY PROGRAM, IN A SANDBOX (cutbox-rows.mjs): the forced cells as the released guide's own fill.sh prints them over the translation 9718587b5b3c9909… (all of the seat's roots in one cut). By AI agents, Wed Nov 11 2026. No macro, syntax, notation, axiom, sorry.
-/
import Derived.Test.YtnncnjkpjlpodaaChecked
import GoSem.Claim
import GoSem.ClaimJoined
import GoSem.ClaimMapViews
import Derived.JoinedTies
import Derived.KernelRfl
namespace Go.Proofs.Ytnncnjkpjlpodaa
/- THE CELL 'sum', in the pinned program and in every row, IS THE sha256 OF THE DUMP (.gsa) THAT YtnncnjkpjlpodaaProg.lean LOADS. Nothing in Lean hashes anything: it is a label: what it is worth is what the hold of that sum in a sandbox is worth. -/
noncomputable def Try.pinned : Pinned := { name := "ytnncnjkpjlpodaa", sum := "9718587b5b3c99092f82a4a72de5f6c838aa909c725464a7cc9e8cf685470188", checked := Try.checked }
namespace Rows
def none {H : Type} : Left H := { results := [], args := [] }

/-- 'sutlerlaw09.FlowBack': WHATEVER THE INPUT: true; the input reads as it did. -/
def flowBackSpec : ChangeSpec := { name := "flowBack", fn := fun _ => fun
  | [d] => { results := [.lit (.bool true)], args := [d] }
  | _ => none }
def flowBackRow : OpenClaim := { program := "ytnncnjkpjlpodaa", sum := "9718587b5b3c99092f82a4a72de5f6c838aa909c725464a7cc9e8cf685470188", func := "sutler/sutlerlaw09.FlowBack", spec := "flowBack", unfollowed := true, recurses := true, apart := false }
def FlowBackSaid : Prop := flowBackRow.holds Try.pinned (OpenSpec.ofChange flowBackSpec)

/-- ITS FALSE NEIGHBOUR: 'it returns false'. Refute it at one input. -/
def flowBackWrong : ChangeSpec := { name := "flowBack", fn := fun _ => fun
  | [d] => { results := [.lit (.bool false)], args := [d] }
  | _ => none }
def FlowBackWrongFalsely : Prop := flowBackRow.holds Try.pinned (OpenSpec.ofChange flowBackWrong)

/-- 'sutlerlaw09.FlowPieces': WHATEVER THE INPUT: true; the input reads as it did. -/
def flowPiecesSpec : ChangeSpec := { name := "flowPieces", fn := fun _ => fun
  | [d1, d2, d3, d4] => { results := [.lit (.bool true)], args := [d1, d2, d3, d4] }
  | _ => none }
def flowPiecesRow : OpenClaim := { program := "ytnncnjkpjlpodaa", sum := "9718587b5b3c99092f82a4a72de5f6c838aa909c725464a7cc9e8cf685470188", func := "sutler/sutlerlaw09.FlowPieces", spec := "flowPieces", unfollowed := true, recurses := true, apart := false }
def FlowPiecesSaid : Prop := flowPiecesRow.holds Try.pinned (OpenSpec.ofChange flowPiecesSpec)

/-- ITS FALSE NEIGHBOUR: 'it returns false'. Refute it at one input. -/
def flowPiecesWrong : ChangeSpec := { name := "flowPieces", fn := fun _ => fun
  | [d1, d2, d3, d4] => { results := [.lit (.bool false)], args := [d1, d2, d3, d4] }
  | _ => none }
def FlowPiecesWrongFalsely : Prop := flowPiecesRow.holds Try.pinned (OpenSpec.ofChange flowPiecesWrong)

/-- 'sutlerlaw09.FlowWrites': WHATEVER THE INPUT: true; the input reads as it did. -/
def flowWritesSpec : ChangeSpec := { name := "flowWrites", fn := fun _ => fun
  | [d] => { results := [.lit (.bool true)], args := [d] }
  | _ => none }
def flowWritesRow : OpenClaim := { program := "ytnncnjkpjlpodaa", sum := "9718587b5b3c99092f82a4a72de5f6c838aa909c725464a7cc9e8cf685470188", func := "sutler/sutlerlaw09.FlowWrites", spec := "flowWrites", unfollowed := true, recurses := true, apart := false }
def FlowWritesSaid : Prop := flowWritesRow.holds Try.pinned (OpenSpec.ofChange flowWritesSpec)

/-- ITS FALSE NEIGHBOUR: 'it returns false'. Refute it at one input. -/
def flowWritesWrong : ChangeSpec := { name := "flowWrites", fn := fun _ => fun
  | [d] => { results := [.lit (.bool false)], args := [d] }
  | _ => none }
def FlowWritesWrongFalsely : Prop := flowWritesRow.holds Try.pinned (OpenSpec.ofChange flowWritesWrong)

/-- 'sutlerlaw09.FlowReads': WHATEVER THE INPUT: true; the input reads as it did. -/
def flowReadsSpec : ChangeSpec := { name := "flowReads", fn := fun _ => fun
  | [d1, d2] => { results := [.lit (.bool true)], args := [d1, d2] }
  | _ => none }
def flowReadsRow : OpenClaim := { program := "ytnncnjkpjlpodaa", sum := "9718587b5b3c99092f82a4a72de5f6c838aa909c725464a7cc9e8cf685470188", func := "sutler/sutlerlaw09.FlowReads", spec := "flowReads", unfollowed := true, recurses := true, apart := false }
def FlowReadsSaid : Prop := flowReadsRow.holds Try.pinned (OpenSpec.ofChange flowReadsSpec)

/-- ITS FALSE NEIGHBOUR: 'it returns false'. Refute it at one input. -/
def flowReadsWrong : ChangeSpec := { name := "flowReads", fn := fun _ => fun
  | [d1, d2] => { results := [.lit (.bool false)], args := [d1, d2] }
  | _ => none }
def FlowReadsWrongFalsely : Prop := flowReadsRow.holds Try.pinned (OpenSpec.ofChange flowReadsWrong)

/-- 'sutlerlaw09.FlowNone': WHATEVER THE INPUT: true; the input reads as it did. -/
def flowNoneSpec : ChangeSpec := { name := "flowNone", fn := fun _ => fun
  | [d] => { results := [.lit (.bool true)], args := [d] }
  | _ => none }
def flowNoneRow : OpenClaim := { program := "ytnncnjkpjlpodaa", sum := "9718587b5b3c99092f82a4a72de5f6c838aa909c725464a7cc9e8cf685470188", func := "sutler/sutlerlaw09.FlowNone", spec := "flowNone", unfollowed := true, recurses := true, apart := false }
def FlowNoneSaid : Prop := flowNoneRow.holds Try.pinned (OpenSpec.ofChange flowNoneSpec)

/-- ITS FALSE NEIGHBOUR: 'it returns false'. Refute it at one input. -/
def flowNoneWrong : ChangeSpec := { name := "flowNone", fn := fun _ => fun
  | [d] => { results := [.lit (.bool false)], args := [d] }
  | _ => none }
def FlowNoneWrongFalsely : Prop := flowNoneRow.holds Try.pinned (OpenSpec.ofChange flowNoneWrong)

/-- 'sutlerlaw10.CodeApart': WHATEVER THE INPUT: true; the input reads as it did. -/
def codeApartSpec : ChangeSpec := { name := "codeApart", fn := fun _ => fun
  | [d1, d2, d3] => { results := [.lit (.bool true)], args := [d1, d2, d3] }
  | _ => none }
def codeApartRow : OpenClaim := { program := "ytnncnjkpjlpodaa", sum := "9718587b5b3c99092f82a4a72de5f6c838aa909c725464a7cc9e8cf685470188", func := "sutler/sutlerlaw10.CodeApart", spec := "codeApart", unfollowed := true, recurses := true, apart := false }
def CodeApartSaid : Prop := codeApartRow.holds Try.pinned (OpenSpec.ofChange codeApartSpec)

/-- ITS FALSE NEIGHBOUR: 'it returns false'. Refute it at one input. -/
def codeApartWrong : ChangeSpec := { name := "codeApart", fn := fun _ => fun
  | [d1, d2, d3] => { results := [.lit (.bool false)], args := [d1, d2, d3] }
  | _ => none }
def CodeApartWrongFalsely : Prop := codeApartRow.holds Try.pinned (OpenSpec.ofChange codeApartWrong)

/-- 'sutlerlaw10.CodeFull': WHATEVER THE INPUT: true; the input reads as it did. -/
def codeFullSpec : ChangeSpec := { name := "codeFull", fn := fun _ => fun
  | [d1, d2] => { results := [.lit (.bool true)], args := [d1, d2] }
  | _ => none }
def codeFullRow : OpenClaim := { program := "ytnncnjkpjlpodaa", sum := "9718587b5b3c99092f82a4a72de5f6c838aa909c725464a7cc9e8cf685470188", func := "sutler/sutlerlaw10.CodeFull", spec := "codeFull", unfollowed := true, recurses := true, apart := false }
def CodeFullSaid : Prop := codeFullRow.holds Try.pinned (OpenSpec.ofChange codeFullSpec)

/-- ITS FALSE NEIGHBOUR: 'it returns false'. Refute it at one input. -/
def codeFullWrong : ChangeSpec := { name := "codeFull", fn := fun _ => fun
  | [d1, d2] => { results := [.lit (.bool false)], args := [d1, d2] }
  | _ => none }
def CodeFullWrongFalsely : Prop := codeFullRow.holds Try.pinned (OpenSpec.ofChange codeFullWrong)

/-- 'sutlerlaw10.CodeReads': WHATEVER THE INPUT: true; the input reads as it did. -/
def codeReadsSpec : ChangeSpec := { name := "codeReads", fn := fun _ => fun
  | [d1, d2] => { results := [.lit (.bool true)], args := [d1, d2] }
  | _ => none }
def codeReadsRow : OpenClaim := { program := "ytnncnjkpjlpodaa", sum := "9718587b5b3c99092f82a4a72de5f6c838aa909c725464a7cc9e8cf685470188", func := "sutler/sutlerlaw10.CodeReads", spec := "codeReads", unfollowed := true, recurses := true, apart := false }
def CodeReadsSaid : Prop := codeReadsRow.holds Try.pinned (OpenSpec.ofChange codeReadsSpec)

/-- ITS FALSE NEIGHBOUR: 'it returns false'. Refute it at one input. -/
def codeReadsWrong : ChangeSpec := { name := "codeReads", fn := fun _ => fun
  | [d1, d2] => { results := [.lit (.bool false)], args := [d1, d2] }
  | _ => none }
def CodeReadsWrongFalsely : Prop := codeReadsRow.holds Try.pinned (OpenSpec.ofChange codeReadsWrong)

/-- 'sutlerlaw10.CodeNone': WHATEVER THE INPUT: true; the input reads as it did. -/
def codeNoneSpec : ChangeSpec := { name := "codeNone", fn := fun _ => fun
  | [d1, d2] => { results := [.lit (.bool true)], args := [d1, d2] }
  | _ => none }
def codeNoneRow : OpenClaim := { program := "ytnncnjkpjlpodaa", sum := "9718587b5b3c99092f82a4a72de5f6c838aa909c725464a7cc9e8cf685470188", func := "sutler/sutlerlaw10.CodeNone", spec := "codeNone", unfollowed := true, recurses := true, apart := false }
def CodeNoneSaid : Prop := codeNoneRow.holds Try.pinned (OpenSpec.ofChange codeNoneSpec)

/-- ITS FALSE NEIGHBOUR: 'it returns false'. Refute it at one input. -/
def codeNoneWrong : ChangeSpec := { name := "codeNone", fn := fun _ => fun
  | [d1, d2] => { results := [.lit (.bool false)], args := [d1, d2] }
  | _ => none }
def CodeNoneWrongFalsely : Prop := codeNoneRow.holds Try.pinned (OpenSpec.ofChange codeNoneWrong)

/-- 'sutlerlaw10.CodeBack': WHATEVER THE INPUT: true; the input reads as it did. -/
def codeBackSpec : ChangeSpec := { name := "codeBack", fn := fun _ => fun
  | [d1, d2] => { results := [.lit (.bool true)], args := [d1, d2] }
  | _ => none }
def codeBackRow : OpenClaim := { program := "ytnncnjkpjlpodaa", sum := "9718587b5b3c99092f82a4a72de5f6c838aa909c725464a7cc9e8cf685470188", func := "sutler/sutlerlaw10.CodeBack", spec := "codeBack", unfollowed := true, recurses := true, apart := false }
def CodeBackSaid : Prop := codeBackRow.holds Try.pinned (OpenSpec.ofChange codeBackSpec)

/-- ITS FALSE NEIGHBOUR: 'it returns false'. Refute it at one input. -/
def codeBackWrong : ChangeSpec := { name := "codeBack", fn := fun _ => fun
  | [d1, d2] => { results := [.lit (.bool false)], args := [d1, d2] }
  | _ => none }
def CodeBackWrongFalsely : Prop := codeBackRow.holds Try.pinned (OpenSpec.ofChange codeBackWrong)

/-- 'sutlerlaw10.CodeMakes': WHATEVER THE INPUT: true; the input reads as it did. -/
def codeMakesSpec : ChangeSpec := { name := "codeMakes", fn := fun _ => fun
  | [d1, d2] => { results := [.lit (.bool true)], args := [d1, d2] }
  | _ => none }
def codeMakesRow : OpenClaim := { program := "ytnncnjkpjlpodaa", sum := "9718587b5b3c99092f82a4a72de5f6c838aa909c725464a7cc9e8cf685470188", func := "sutler/sutlerlaw10.CodeMakes", spec := "codeMakes", unfollowed := true, recurses := true, apart := false }
def CodeMakesSaid : Prop := codeMakesRow.holds Try.pinned (OpenSpec.ofChange codeMakesSpec)

/-- ITS FALSE NEIGHBOUR: 'it returns false'. Refute it at one input. -/
def codeMakesWrong : ChangeSpec := { name := "codeMakes", fn := fun _ => fun
  | [d1, d2] => { results := [.lit (.bool false)], args := [d1, d2] }
  | _ => none }
def CodeMakesWrongFalsely : Prop := codeMakesRow.holds Try.pinned (OpenSpec.ofChange codeMakesWrong)

/- THE SECOND FORM. 'bulk': how many values and letters a reading holds, each counted each time it is reached (what is shared counts as often as it is met; a slice's spare places count too). A statement '..UptoSaid' is the law's where the arguments, and the package variables that the reading takes, are together of bulk at most 1048576: NARROWER than '..Said'. Prove '..Said' where nothing that the law and all that it calls make is longer than what came in: it says more and counts as full. Else prove '..UptoSaid'. A law counts once. -/
mutual
def uptoBulk {H : Type} : DataW H → Nat
  | .lit (.string bytes) => bytes.length + 1
  | .lit _ => 1
  | .nil => 1
  | .ptr d => uptoBulk d + 1
  | .slice elems spare => uptoBulkAll elems + uptoBulkAll spare + 1
  | .agg parts => uptoBulkAll parts + 1
  | .iface _ d => uptoBulk d + 1
  | .map entries => uptoBulkEntries entries + 1
  | .held _ => 1
def uptoBulkAll {H : Type} : List (DataW H) → Nat
  | [] => 0
  | d :: r => uptoBulk d + uptoBulkAll r
def uptoBulkEntries {H : Type} : List (Lit × DataW H) → Nat
  | [] => 0
  | x :: r => uptoBulkEntry x + uptoBulkEntries r
def uptoBulkEntry {H : Type} : Lit × DataW H → Nat
  | (.string bytes, d) => bytes.length + uptoBulk d + 1
  | (_, d) => uptoBulk d + 1
 end
def uptoSmall : (H : Type) → List (DataW H) → Bool := fun _ ds => decide (uptoBulkAll ds ≤ 1048576)
def OpenSpec.upto (s : _root_.Go.ChangeSpec) : _root_.Go.OpenSpec := { _root_.Go.OpenSpec.ofChange s with cond := some uptoSmall }

/-- 'sutlerlaw09.FlowBack', WHERE WHAT IT READS IS OF BULK AT MOST 1048576: true; the input reads as it did. -/
def flowBackUptoRow : OpenClaim := { program := "ytnncnjkpjlpodaa", sum := "9718587b5b3c99092f82a4a72de5f6c838aa909c725464a7cc9e8cf685470188", func := "sutler/sutlerlaw09.FlowBack", spec := "flowBack", unfollowed := true, recurses := true, apart := false, narrowed := true }
def FlowBackUptoSaid : Prop := flowBackUptoRow.holds Try.pinned (OpenSpec.upto flowBackSpec)

/-- 'sutlerlaw09.FlowPieces', WHERE WHAT IT READS IS OF BULK AT MOST 1048576: true; the input reads as it did. -/
def flowPiecesUptoRow : OpenClaim := { program := "ytnncnjkpjlpodaa", sum := "9718587b5b3c99092f82a4a72de5f6c838aa909c725464a7cc9e8cf685470188", func := "sutler/sutlerlaw09.FlowPieces", spec := "flowPieces", unfollowed := true, recurses := true, apart := false, narrowed := true }
def FlowPiecesUptoSaid : Prop := flowPiecesUptoRow.holds Try.pinned (OpenSpec.upto flowPiecesSpec)

/-- 'sutlerlaw09.FlowWrites', WHERE WHAT IT READS IS OF BULK AT MOST 1048576: true; the input reads as it did. -/
def flowWritesUptoRow : OpenClaim := { program := "ytnncnjkpjlpodaa", sum := "9718587b5b3c99092f82a4a72de5f6c838aa909c725464a7cc9e8cf685470188", func := "sutler/sutlerlaw09.FlowWrites", spec := "flowWrites", unfollowed := true, recurses := true, apart := false, narrowed := true }
def FlowWritesUptoSaid : Prop := flowWritesUptoRow.holds Try.pinned (OpenSpec.upto flowWritesSpec)

/-- 'sutlerlaw09.FlowReads', WHERE WHAT IT READS IS OF BULK AT MOST 1048576: true; the input reads as it did. -/
def flowReadsUptoRow : OpenClaim := { program := "ytnncnjkpjlpodaa", sum := "9718587b5b3c99092f82a4a72de5f6c838aa909c725464a7cc9e8cf685470188", func := "sutler/sutlerlaw09.FlowReads", spec := "flowReads", unfollowed := true, recurses := true, apart := false, narrowed := true }
def FlowReadsUptoSaid : Prop := flowReadsUptoRow.holds Try.pinned (OpenSpec.upto flowReadsSpec)

/-- 'sutlerlaw09.FlowNone', WHERE WHAT IT READS IS OF BULK AT MOST 1048576: true; the input reads as it did. -/
def flowNoneUptoRow : OpenClaim := { program := "ytnncnjkpjlpodaa", sum := "9718587b5b3c99092f82a4a72de5f6c838aa909c725464a7cc9e8cf685470188", func := "sutler/sutlerlaw09.FlowNone", spec := "flowNone", unfollowed := true, recurses := true, apart := false, narrowed := true }
def FlowNoneUptoSaid : Prop := flowNoneUptoRow.holds Try.pinned (OpenSpec.upto flowNoneSpec)

/-- 'sutlerlaw10.CodeApart', WHERE WHAT IT READS IS OF BULK AT MOST 1048576: true; the input reads as it did. -/
def codeApartUptoRow : OpenClaim := { program := "ytnncnjkpjlpodaa", sum := "9718587b5b3c99092f82a4a72de5f6c838aa909c725464a7cc9e8cf685470188", func := "sutler/sutlerlaw10.CodeApart", spec := "codeApart", unfollowed := true, recurses := true, apart := false, narrowed := true }
def CodeApartUptoSaid : Prop := codeApartUptoRow.holds Try.pinned (OpenSpec.upto codeApartSpec)

/-- 'sutlerlaw10.CodeFull', WHERE WHAT IT READS IS OF BULK AT MOST 1048576: true; the input reads as it did. -/
def codeFullUptoRow : OpenClaim := { program := "ytnncnjkpjlpodaa", sum := "9718587b5b3c99092f82a4a72de5f6c838aa909c725464a7cc9e8cf685470188", func := "sutler/sutlerlaw10.CodeFull", spec := "codeFull", unfollowed := true, recurses := true, apart := false, narrowed := true }
def CodeFullUptoSaid : Prop := codeFullUptoRow.holds Try.pinned (OpenSpec.upto codeFullSpec)

/-- 'sutlerlaw10.CodeReads', WHERE WHAT IT READS IS OF BULK AT MOST 1048576: true; the input reads as it did. -/
def codeReadsUptoRow : OpenClaim := { program := "ytnncnjkpjlpodaa", sum := "9718587b5b3c99092f82a4a72de5f6c838aa909c725464a7cc9e8cf685470188", func := "sutler/sutlerlaw10.CodeReads", spec := "codeReads", unfollowed := true, recurses := true, apart := false, narrowed := true }
def CodeReadsUptoSaid : Prop := codeReadsUptoRow.holds Try.pinned (OpenSpec.upto codeReadsSpec)

/-- 'sutlerlaw10.CodeNone', WHERE WHAT IT READS IS OF BULK AT MOST 1048576: true; the input reads as it did. -/
def codeNoneUptoRow : OpenClaim := { program := "ytnncnjkpjlpodaa", sum := "9718587b5b3c99092f82a4a72de5f6c838aa909c725464a7cc9e8cf685470188", func := "sutler/sutlerlaw10.CodeNone", spec := "codeNone", unfollowed := true, recurses := true, apart := false, narrowed := true }
def CodeNoneUptoSaid : Prop := codeNoneUptoRow.holds Try.pinned (OpenSpec.upto codeNoneSpec)

/-- 'sutlerlaw10.CodeBack', WHERE WHAT IT READS IS OF BULK AT MOST 1048576: true; the input reads as it did. -/
def codeBackUptoRow : OpenClaim := { program := "ytnncnjkpjlpodaa", sum := "9718587b5b3c99092f82a4a72de5f6c838aa909c725464a7cc9e8cf685470188", func := "sutler/sutlerlaw10.CodeBack", spec := "codeBack", unfollowed := true, recurses := true, apart := false, narrowed := true }
def CodeBackUptoSaid : Prop := codeBackUptoRow.holds Try.pinned (OpenSpec.upto codeBackSpec)

/-- 'sutlerlaw10.CodeMakes', WHERE WHAT IT READS IS OF BULK AT MOST 1048576: true; the input reads as it did. -/
def codeMakesUptoRow : OpenClaim := { program := "ytnncnjkpjlpodaa", sum := "9718587b5b3c99092f82a4a72de5f6c838aa909c725464a7cc9e8cf685470188", func := "sutler/sutlerlaw10.CodeMakes", spec := "codeMakes", unfollowed := true, recurses := true, apart := false, narrowed := true }
def CodeMakesUptoSaid : Prop := codeMakesUptoRow.holds Try.pinned (OpenSpec.upto codeMakesSpec)

end Rows
end Go.Proofs.Ytnncnjkpjlpodaa
