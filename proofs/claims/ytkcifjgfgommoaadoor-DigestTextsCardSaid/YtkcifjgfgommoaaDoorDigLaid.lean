import Derived.Test.YtkcifjgfgommoaaDoorRowBase
import Derived.Test.YtkcifjgfgommoaaDoorDig2
import Derived.LaidMore
import Derived.Lib.LaidTab
import Derived.JoinedOf
import Derived.LaidHandle
/-
  From the row's condition on the package's tables to what the walks ask.
-/
namespace Go.Proofs.YtkcifjgfgommoaaDoor
open Go.RowKit

theorem cells_of_tab2 {H : Type} {enc : TypeId × Value → H} {P : Program} {w : World} {base : Nat} {sp : Nat → Bool} {held : Bool} {fuel : Nat} {t e e2 : TypeId} {n m : Nat} {k : IntKind} {cs : List Value} {zss : List (List Int)} {p : List MemPlace}
    (ht : P.underlying t = some (.array n e)) (he : P.underlying e = some (.array m e2)) (he2 : P.underlying e2 = some (.int k)) (hc2 : P.cellsOf e2 = 1) (hce : P.cellsOf e = m) (hct : P.cellsOf t = n * m)
    (h : DataW.trod enc P w base sp held fuel t cs = some (.agg (zss.map (Lib.tabData k)), p)) (i j : Nat) (hi : i < n) (hj : j < m) : cs[i * m + j]? = ((zss.getD i []).map fun z => Value.int k z)[j]? := by
  cases fuel with
  | zero => simp [DataW.trod] at h
  | succ fuel =>
    simp only [DataW.trod, ht, hce, hct] at h
    split at h
    · rename_i hl
      obtain ⟨xs, hm, hx⟩ := Option.map_eq_some_iff.1 h
      have hxs : xs.map (·.1) = zss.map (Lib.tabData (H := H) k) := by
        have := congrArg Prod.fst hx
        simpa using this
      have hxl : xs.length = n := by simpa using Lib.mapM_length hm
      have hzl : zss.length = n := by
        have := congrArg List.length hxs
        simp at this
        omega
      obtain ⟨b, hb, hf⟩ := Lib.mapM_at hm i i (by simp [hi])
      have h2 : (xs.map (·.1))[i]? = some b.1 := by simp [hb]
      have hiz0 : i < zss.length := by omega
      rw [hxs, List.getElem?_map, List.getElem?_eq_getElem hiz0] at h2
      have h3 : Lib.tabData k zss[i] = b.1 := by simpa using h2
      obtain ⟨b1, b2⟩ := b
      simp only at h3
      subst h3
      have h4 := Lib.cells_of_tab he he2 hc2 hce hf
      have hiz : i < zss.length := by omega
      rw [List.getD_eq_getElem?_getD, List.getElem?_eq_getElem hiz]
      show _ = ((zss[i]).map fun z => Value.int k z)[j]?
      rw [← h4, List.getElem?_take, if_pos hj, List.getElem?_drop]
    · cases h
theorem iv_data : (Rows.laid_sutler_digest_iv : DataW Unit) = Lib.tabData .u32 (ivL.map fun (x : Nat) => (x : Int)) := by kernel_rfl
def rowsZ : List (List Int) := (List.range 10).map fun r => (List.range 16).map fun j => ((rowsF.getD (16 * r + j) 0 : Nat) : Int)
def lanesZ : List (List Int) := (List.range 8).map fun r => (List.range 4).map fun j => ((lanesF.getD (4 * r + j) 0 : Nat) : Int)
theorem rows_data : (Rows.laid_sutler_digest_rows : DataW Unit) = .agg (rowsZ.map (Lib.tabData .u8)) := by kernel_rfl
theorem lanes_data : (Rows.laid_sutler_digest_lanes : DataW Unit) = .agg (lanesZ.map (Lib.tabData .u8)) := by kernel_rfl
theorem gl_of_laid {W : World} (h : laidMetH Tryd.prog [("sutler/digest.iv", Rows.laid_sutler_digest_iv), ("sutler/digest.rows", Rows.laid_sutler_digest_rows), ("sutler/digest.lanes", Rows.laid_sutler_digest_lanes)] W) : Gl W := by
  rw [MakeChecks.laidMetH_plain _ _ _ (by kernel_rfl), iv_data, rows_data, lanes_data] at h
  have h1 := Lib.tabIs_of_head (g := 0) (t := 40) (e := 38) (n := 8) (by kernel_rfl) (by kernel_rfl) (by kernel_rfl) Tryd.underlying38 (by kernel_rfl) (by kernel_rfl) h
  obtain ⟨ps, ⟨g1, t1, cs1, f1, p1, q1, hg1, ht1, hv1, hd1, ⟨g2, t2, cs2, f2, p2, q2, hg2, ht2, hv2, hd2, ⟨g3, t3, cs3, f3, p3, q3, hg3, ht3, hv3, hd3, _, _⟩, _⟩, _⟩, _⟩ := h
  have k2 : Tryd.prog.globalNamed "sutler/digest.rows" = some 1 := by kernel_rfl
  have k3 : Tryd.prog.globalNamed "sutler/digest.lanes" = some 2 := by kernel_rfl
  obtain rfl := Option.some.inj (k2.symm.trans hg2)
  obtain rfl := Option.some.inj (k3.symm.trans hg3)
  have y2 : (Tryd.prog.globals[1]?).map (·.type) = some 51 := by kernel_rfl
  have y3 : (Tryd.prog.globals[2]?).map (·.type) = some 53 := by kernel_rfl
  obtain rfl := Option.some.inj (y2.symm.trans ht2)
  obtain rfl := Option.some.inj (y3.symm.trans ht3)
  have c2 := cells_of_tab2 (e := 50) (e2 := 5) (n := 10) (m := 16) (by kernel_rfl) (by kernel_rfl) Tryd.underlying5 (by kernel_rfl) (by kernel_rfl) (by kernel_rfl) hd2
  have c3 := cells_of_tab2 (e := 52) (e2 := 5) (n := 8) (m := 4) (by kernel_rfl) (by kernel_rfl) Tryd.underlying5 (by kernel_rfl) (by kernel_rfl) (by kernel_rfl) hd3
  have k1 : Tryd.prog.globalNamed "sutler/digest.iv" = some 0 := by kernel_rfl
  refine ⟨fun j hj => ?_, fun j hj => ?_, fun j hj => ?_⟩
  · have h5 := h1.cell (g := 0) k1 j (by simpa [ivL] using hj)
    rw [h5]
    congr 2
    rw [List.getD_eq_getElem?_getD, List.getD_eq_getElem?_getD, List.getElem?_map, List.getElem?_eq_getElem (by simpa [ivL] using hj)]
    rfl
  · have h5 := World.var?_cell k2 hv2 j
    have h6 := c2 (j / 16) (j % 16) (by omega) (by omega)
    rw [show j / 16 * 16 + j % 16 = j by omega, Array.getElem?_toList] at h6
    rw [h5, h6]
    have hr : j / 16 < 10 := by omega
    have hm : j % 16 < 16 := by omega
    have hz : rowsZ.getD (j / 16) [] = (List.range 16).map fun q => ((rowsF.getD (16 * (j / 16) + q) 0 : Nat) : Int) := by
      unfold rowsZ
      rw [List.getD_eq_getElem?_getD, List.getElem?_map, List.getElem?_range hr]; rfl
    rw [hz]
    show (((List.range 16).map fun q => ((rowsF.getD (16 * (j / 16) + q) 0 : Nat) : Int)).map fun z => Value.int .u8 z)[j % 16]? = _
    rw [List.getElem?_map, List.getElem?_map, List.getElem?_range hm]
    show some (Value.int .u8 ((rowsF.getD (16 * (j / 16) + j % 16) 0 : Nat) : Int)) = _
    rw [show 16 * (j / 16) + j % 16 = j by omega]
  · have h5 := World.var?_cell k3 hv3 j
    have h6 := c3 (j / 4) (j % 4) (by omega) (by omega)
    rw [show j / 4 * 4 + j % 4 = j by omega, Array.getElem?_toList] at h6
    rw [h5, h6]
    have hr : j / 4 < 8 := by omega
    have hm : j % 4 < 4 := by omega
    have hz : lanesZ.getD (j / 4) [] = (List.range 4).map fun q => ((lanesF.getD (4 * (j / 4) + q) 0 : Nat) : Int) := by
      unfold lanesZ
      rw [List.getD_eq_getElem?_getD, List.getElem?_map, List.getElem?_range hr]; rfl
    rw [hz]
    show (((List.range 4).map fun q => ((lanesF.getD (4 * (j / 4) + q) 0 : Nat) : Int)).map fun z => Value.int .u8 z)[j % 4]? = _
    rw [List.getElem?_map, List.getElem?_map, List.getElem?_range hm]
    show some (Value.int .u8 ((lanesF.getD (4 * (j / 4) + j % 4) 0 : Nat) : Int)) = _
    rw [show 4 * (j / 4) + j % 4 = j by omega]
end Go.Proofs.YtkcifjgfgommoaaDoor
