import Derived.Test.YtoekecopfmohiaaDoorFlateLaid
import Derived.Test.YtoekecopfmohiaaDoorGz2
/-
  gzip: from the row's condition on the tables to what the walks ask.
-/
namespace Go.Proofs.YtoekecopfmohiaaDoor
open Go.RowKit

theorem half_data : (Rows.laid_sutler_crc_half : DataW Unit) = Lib.tabData .u32 (tab.map fun (x : Nat) => (x : Int)) := by kernel_rfl
theorem mag_data : (Rows.laid_sutler_gzip_magic : DataW Unit) = Lib.tabData .u8 (hMag.map fun (x : Nat) => (x : Int)) := by kernel_rfl
theorem gz_of_laid {W : World} (h : laidMetH Tryd.prog [("sutler/crc.half", Rows.laid_sutler_crc_half), ("sutler/flate.lengths", Rows.laid_sutler_flate_lengths), ("sutler/flate.distances", Rows.laid_sutler_flate_distances), ("sutler/flate.order", Rows.laid_sutler_flate_order), ("sutler/gzip.magic", Rows.laid_sutler_gzip_magic)] W) : Gz W := by
  rw [MakeChecks.laidMetH_plain _ _ _ (by kernel_rfl)] at h
  obtain ⟨ps, h, -⟩ := h
  have hgf := gf_of_vars h 1 2 3 rfl rfl rfl
  obtain ⟨g1, t1, cs1, f1, p1, hg1, ht1, hv1, hd1⟩ := laid_at _ _ 0 _ _ h rfl
  obtain ⟨g2, t2, cs2, f2, p2, hg2, ht2, hv2, hd2⟩ := laid_at _ _ 4 _ _ h rfl
  rw [half_data] at hd1
  rw [mag_data] at hd2
  have k1 : Tryd.prog.globalNamed "sutler/crc.half" = some 3 := by kernel_rfl
  have k2 : Tryd.prog.globalNamed "sutler/gzip.magic" = some 0 := by kernel_rfl
  obtain rfl := Option.some.inj (k1.symm.trans hg1)
  obtain rfl := Option.some.inj (k2.symm.trans hg2)
  have y1 : (Tryd.prog.globals[3]?).map (·.type) = some 123 := by kernel_rfl
  have y2 : (Tryd.prog.globals[0]?).map (·.type) = some 61 := by kernel_rfl
  obtain rfl := Option.some.inj (y1.symm.trans ht1)
  obtain rfl := Option.some.inj (y2.symm.trans ht2)
  have q1 := Lib.cells_of_tab (n := 16) (e := 38) (by kernel_rfl) (by kernel_rfl) (by kernel_rfl) (by kernel_rfl) hd1
  have q2 := Lib.cells_of_tab (n := 10) (e := 5) (by kernel_rfl) Tryd.underlying5 (by kernel_rfl) (by kernel_rfl) hd2
  refine ⟨fun i hi => ?_, hgf, fun i hi => ?_⟩
  · rw [(World.var?_cell k1 hv1 i), ← Array.getElem?_toList, q1]
    have : tab.length = 16 := rfl
    rw [List.getElem?_map, List.getElem?_map, List.getD_eq_getElem?_getD, List.getElem?_eq_getElem (by omega)]
    rfl
  · rw [(World.var?_cell k2 hv2 i), ← Array.getElem?_toList, q2]
    have : hMag.length = 10 := rfl
    rw [List.getElem?_map, List.getElem?_map, List.getD_eq_getElem?_getD, List.getElem?_eq_getElem (by omega)]
    rfl
end Go.Proofs.YtoekecopfmohiaaDoor
