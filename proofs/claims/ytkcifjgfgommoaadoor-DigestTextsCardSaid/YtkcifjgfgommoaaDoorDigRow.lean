import Derived.Test.YtkcifjgfgommoaaDoorDigPure
import Derived.Deep.MidRow
/-
  Digests: a row of a table, by value.
-/
namespace Go.Proofs.YtkcifjgfgommoaaDoor
open Go.RowKit

theorem run_index_row {P : Program} (w : World) (t e e2 : TypeId) (n m : Nat) (cs : Array Value) (k : IntKind) (i : Nat) (h : P.underlying t = some (.array n e)) (he : P.underlying e = some (.array m e2)) (hi : (P.info? e).map (·.size) = some m) (hin : i < n) :
    (Instr.index t (.agg cs) (.int k (i : Int))).run P w = .ok (.agg (cs.extract (i * m) (i * m + m))) w := by
  have h1 : (0 : Int) ≤ (i : Int) ∧ (i : Int) < (n : Int) := by omega
  cases hq : P.info? e with
  | none => simp [hq] at hi
  | some x =>
    have hs : x.size = m := by simpa [hq] using hi
    have hagg : (isAgg e).run P w = .ok true w := by
      unfold isAgg
      rw [Sem.run_bind, run_underlying he w]
      rfl
    simp [Instr.index, run_underlying h, asIntOf, h1, part, hagg, sizeOf, typeInfo, hq, hs]
    intro hc; omega
end Go.Proofs.YtkcifjgfgommoaaDoor
