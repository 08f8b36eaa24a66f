import Derived.Test.YtcfclhgilpajiaaDoorRowBase
import Derived.Test.YtcfclhgilpajiaaDoorCrcPure
import Derived.LaidMore
import Derived.Lib.LaidTab
import Derived.JoinedOf
import Derived.LaidHandle
/-
  From the row's condition on the table of half bytes to what the walks ask.
-/
namespace Go.Proofs.YtcfclhgilpajiaaDoor
open Go.RowKit

theorem tabIs_half {w : World} (h : Lib.TabIs Tryd.prog w "sutler/crc.half" .u32 (tab.map fun (x : Nat) => (x : Int))) : Half w := by
  intro j hj
  have hg : Tryd.prog.globalNamed "sutler/crc.half" = some 0 := by kernel_rfl
  have h1 := World.var?_cell hg h j
  rw [h1]
  have : tab.length = 16 := rfl
  simp only [List.map_map]
  rw [List.getElem?_toArray, List.getElem?_map, List.getD_eq_getElem?_getD, List.getElem?_eq_getElem (by omega)]
  rfl
theorem half_data : (Rows.laid_sutler_crc_half : DataW Unit) = Lib.tabData .u32 (tab.map fun (x : Nat) => (x : Int)) := by kernel_rfl
theorem half_of_laid {W : World} (h : laidMetH Tryd.prog [("sutler/crc.half", Rows.laid_sutler_crc_half)] W) : Half W := by
  rw [MakeChecks.laidMetH_plain _ _ _ (by kernel_rfl), half_data] at h
  exact tabIs_half (Lib.tabIs_of_head (g := 0) (t := 45) (e := 25) (n := 16) (by kernel_rfl) (by kernel_rfl) Tryd.underlying45 Tryd.underlying25 (by kernel_rfl) (by kernel_rfl) h)
end Go.Proofs.YtcfclhgilpajiaaDoor
