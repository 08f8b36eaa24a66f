import Derived.Test.YtkcifjgfgommoaaDoorRowBase
import Derived.Test.YtkcifjgfgommoaaDoorDig2
import Derived.Lib.LaidTab
/-
  An array of 32 bytes that came in, opened.
-/
namespace Go.Proofs.YtkcifjgfgommoaaDoor
open Go.ChangeShapes Go.WideShapes Go.ChangeAt Go.RowKit

def natOf (v : Value) : Nat := match v with | .int _ z => z.toNat | _ => 0
theorem okWide_arr32 {w : World} {r : Reach} {b0 : Nat} {v : Value} (h : Value.okWide Tryd.prog w r b0 24 v) : ∃ cs : Array Value, v = .agg cs := by
  have hu : Tryd.prog.underlying 24 = some (.array 32 5) := by kernel_rfl
  simp only [Value.okWide, hu] at h
  obtain ⟨cs, h1, _⟩ := h
  exact ⟨cs, h1⟩
theorem arr_open {H : Type} {enc : TypeId × Value → H} {W : World} {base : Nat} {spare : Nat → Bool} {held : Bool} {cs : Array Value} {d : DataW H} {ps : List MemPlace}
    (h : DataW.Trod enc Tryd.prog W base spare held 24 (.agg cs) d ps) : ∃ l : List Nat, cs = u8s l ∧ l.length = 32 ∧ ∀ x ∈ l, x < 256 := by
  have hu : Tryd.prog.underlying 24 = some (.array 32 5) := by kernel_rfl
  have hce : Tryd.prog.cellsOf 5 = 1 := by kernel_rfl
  have hct : Tryd.prog.cellsOf 24 = 32 := by kernel_rfl
  obtain ⟨fuel, hf⟩ := h
  cases fuel with
  | zero => simp [DataW.trod] at hf
  | succ m =>
    simp only [DataW.trod, hu, hce, hct, Value.cells] at hf
    split at hf
    · rename_i hl
      obtain ⟨xs, hm, hx⟩ := Option.map_eq_some_iff.1 hf
      have cell : ∀ i, i < 32 → ∃ z : Nat, z < 256 ∧ cs.toList[i]? = some (.int .u8 (z : Int)) := fun i hi => by
        obtain ⟨b, hb, hq⟩ := Lib.mapM_at hm i i (by simp [hi])
        obtain ⟨z, hc, -, hw⟩ := DataW.trod_int Tryd.underlying5 hq
        have hz := bounds_u8 hw
        have h1 : cs.toList[i]? = some (.int .u8 z) := by
          have := congrArg (·[0]?) hc
          simpa [List.getElem?_take, List.getElem?_drop] using this
        exact ⟨z.toNat, by omega, by rw [h1, Int.toNat_of_nonneg hz.1]⟩
      have hlen : cs.toList.length = 32 := by simpa using hl
      refine ⟨cs.toList.map natOf, ?_, by simpa using hlen, fun x hx => ?_⟩
      · apply Array.ext'
        unfold u8s
        apply List.ext_getElem
        · simp
        · intro i h1 h2
          obtain ⟨z, hz, hc⟩ := cell i (by omega)
          have h3 : cs.toList[i] = .int .u8 (z : Int) := by
            rw [List.getElem?_eq_getElem h1] at hc
            injection hc
          simp only [List.getElem_map]
          rw [h3]
          simp [natOf]
      · obtain ⟨v, hv, rfl⟩ := List.mem_map.1 hx
        obtain ⟨i, hi, rfl⟩ := List.getElem_of_mem hv
        obtain ⟨z, hz, hc⟩ := cell i (by omega)
        rw [List.getElem?_eq_getElem hi] at hc
        injection hc with hc
        rw [hc]; simpa [natOf] using hz
    · cases hf
end Go.Proofs.YtkcifjgfgommoaaDoor
