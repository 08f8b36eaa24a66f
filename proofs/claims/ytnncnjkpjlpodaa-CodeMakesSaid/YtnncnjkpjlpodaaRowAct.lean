import Derived.Test.YtnncnjkpjlpodaaRowBase
import Derived.Lib.SmallJoins
/-
  An Act (three ints and a slice of bytes) that came in, opened.
-/
namespace Go.Proofs.Ytnncnjkpjlpodaa
open Go.ChangeShapes Go.WideShapes Go.ChangeAt Go.RowKit

theorem cells_int : Try.prog.cellsOf 3 = 1 := by kernel_rfl
theorem cells_act : Try.prog.cellsOf 28 = 4 := by kernel_rfl
theorem act_open {H : Type} {enc : TypeId × Value → H} {W : World} {base : Nat} {spare : Nat → Bool} {held : Bool} {cs : Array Value} {d : DataW H} {ps : List MemPlace}
    (h : DataW.Trod enc Try.prog W base spare held 28 (.agg cs) d ps) : ∃ a n b v, cs = #[.int .i64 a, .int .i64 n, .int .i64 b, v] := by
  obtain ⟨fuel, hf⟩ := h
  obtain ⟨y0, y1, y2, y3, m, -, hl, h0, h1, h2, -⟩ := Joins.trod_struct4 Try.underlying28 hf
  obtain ⟨a, ha, -⟩ := DataW.trod_int Try.underlying3 h0
  obtain ⟨n, hn, -⟩ := DataW.trod_int Try.underlying3 h1
  obtain ⟨b, hb, -⟩ := DataW.trod_int Try.underlying3 h2
  have hc : (Value.agg cs).cells.toList = cs.toList := by simp [Value.cells]
  rw [hc] at ha hn hb hl
  rw [cells_act] at hl
  rw [cells_int] at ha hn hb
  obtain ⟨L⟩ := cs
  simp only at ha hn hb hl
  match L, hl with
  | [u0, u1, u2, u3], _ =>
    simp at ha hn hb
    exact ⟨a, n, b, u3, by rw [ha, hn, hb]⟩
end Go.Proofs.Ytnncnjkpjlpodaa
