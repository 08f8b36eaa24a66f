/-
  DERIVED. GIVEN WITH THE SEED: THE PROGRAM's TIES (one call each: nine closed facts by the kernel) AND EACH ROW's TIE, after the 31st guide's Derived/Test/Toyas{Tie, Card}.lean. No idea stands in it: it is a product of the set-up. Laid BY PROGRAM, IN A SANDBOX (cutbox-door.mjs). By AI agents, Wed Nov 11 2026. No macro, syntax, notation, axiom, sorry.
-/
import Derived.Test.YtoekecopfmohiaaDoorRows
import Derived.LaidByTextLater
import Derived.SevenTiedAt
import Derived.LaidSub
import Derived.LaidOnce
namespace Go.Proofs.YtoekecopfmohiaaDoor
open Go
set_option maxRecDepth 100000
theorem seatTie1 : Tryd.prog.laidByTextLater [("sutler/crc.half", Rows.laid_sutler_crc_half), ("sutler/flate.lengths", Rows.laid_sutler_flate_lengths), ("sutler/flate.distances", Rows.laid_sutler_flate_distances), ("sutler/flate.order", Rows.laid_sutler_flate_order), ("sutler/gzip.magic", Rows.laid_sutler_gzip_magic)] [.data, .data, .data, .widerDeep, .widerDeep] true :=
  Program.laidByTextLater_by_one 93 8 61 (by kernel_rfl) (by kernel_rfl) (by kernel_rfl) (by kernel_rfl) (by kernel_rfl) (by kernel_rfl) (fun _ _ => by kernel_rfl)
theorem noOwnUnsafe : Tryd.pinned.checked.prog.headLifts.contains "ownunsafe" = false := by kernel_rfl
theorem tie : Tryd.prog.laidByTextLater [("sutler/flate.lengths", Rows.laid_sutler_flate_lengths), ("sutler/flate.distances", Rows.laid_sutler_flate_distances), ("sutler/flate.order", Rows.laid_sutler_flate_order)] [.data, .data, .widerDeep] true :=
  Program.laidByTextLater.sub seatTie1 ["sutler/flate.lengths", "sutler/flate.distances", "sutler/flate.order"] (by kernel_rfl) (by kernel_rfl)
theorem flateShort_row_tie : Rows.flateShortRow.laidByTextAt .later Tryd.pinned [.data, .data, .widerDeep] true :=
  OpenClaim.laidByTextAt_later rfl rfl tie noOwnUnsafe
theorem flateBounds_row_tie : Rows.flateBoundsRow.laidByTextAt .later Tryd.pinned [.data, .data, .widerDeep] true :=
  OpenClaim.laidByTextAt_later rfl rfl tie noOwnUnsafe
theorem flateRuns_row_tie : Rows.flateRunsRow.laidByTextAt .later Tryd.pinned [.data, .data, .widerDeep] true :=
  OpenClaim.laidByTextAt_later rfl rfl tie noOwnUnsafe
theorem flateBack_row_tie : Rows.flateBackRow.laidByTextAt .later Tryd.pinned [.data, .data, .widerDeep] true :=
  OpenClaim.laidByTextAt_later rfl rfl tie noOwnUnsafe
theorem tie2 : Tryd.prog.laidByTextLater [("sutler/crc.half", Rows.laid_sutler_crc_half), ("sutler/flate.lengths", Rows.laid_sutler_flate_lengths), ("sutler/flate.distances", Rows.laid_sutler_flate_distances), ("sutler/flate.order", Rows.laid_sutler_flate_order), ("sutler/gzip.magic", Rows.laid_sutler_gzip_magic)] [.data, .data, .data, .widerDeep, .widerDeep] true :=
  Program.laidByTextLater.sub seatTie1 ["sutler/crc.half", "sutler/flate.lengths", "sutler/flate.distances", "sutler/flate.order", "sutler/gzip.magic"] (by kernel_rfl) (by kernel_rfl)
theorem gzipShort_row_tie : Rows.gzipShortRow.laidByTextAt .later Tryd.pinned [.data, .data, .data, .widerDeep, .widerDeep] true :=
  OpenClaim.laidByTextAt_later rfl rfl tie2 noOwnUnsafe
theorem gzipSums_row_tie : Rows.gzipSumsRow.laidByTextAt .later Tryd.pinned [.data, .data, .data, .widerDeep, .widerDeep] true :=
  OpenClaim.laidByTextAt_later rfl rfl tie2 noOwnUnsafe
theorem gzipWrites_row_tie : Rows.gzipWritesRow.laidByTextAt .later Tryd.pinned [.data, .data, .data, .widerDeep, .widerDeep] true :=
  OpenClaim.laidByTextAt_later rfl rfl tie2 noOwnUnsafe
theorem gzipBack_row_tie : Rows.gzipBackRow.laidByTextAt .later Tryd.pinned [.data, .data, .data, .widerDeep, .widerDeep] true :=
  OpenClaim.laidByTextAt_later rfl rfl tie2 noOwnUnsafe
theorem gzipFinds_row_tie : Rows.gzipFindsRow.laidByTextAt .later Tryd.pinned [.data, .data, .data, .widerDeep, .widerDeep] true :=
  OpenClaim.laidByTextAt_later rfl rfl tie2 noOwnUnsafe
theorem flateShortUpto_row_tie : Rows.flateShortUptoRow.laidByTextAt .later Tryd.pinned [.data, .data, .widerDeep] true :=
  OpenClaim.laidByTextAt_later rfl rfl tie noOwnUnsafe
theorem flateBoundsUpto_row_tie : Rows.flateBoundsUptoRow.laidByTextAt .later Tryd.pinned [.data, .data, .widerDeep] true :=
  OpenClaim.laidByTextAt_later rfl rfl tie noOwnUnsafe
theorem flateRunsUpto_row_tie : Rows.flateRunsUptoRow.laidByTextAt .later Tryd.pinned [.data, .data, .widerDeep] true :=
  OpenClaim.laidByTextAt_later rfl rfl tie noOwnUnsafe
theorem flateBackUpto_row_tie : Rows.flateBackUptoRow.laidByTextAt .later Tryd.pinned [.data, .data, .widerDeep] true :=
  OpenClaim.laidByTextAt_later rfl rfl tie noOwnUnsafe
theorem gzipShortUpto_row_tie : Rows.gzipShortUptoRow.laidByTextAt .later Tryd.pinned [.data, .data, .data, .widerDeep, .widerDeep] true :=
  OpenClaim.laidByTextAt_later rfl rfl tie2 noOwnUnsafe
theorem gzipSumsUpto_row_tie : Rows.gzipSumsUptoRow.laidByTextAt .later Tryd.pinned [.data, .data, .data, .widerDeep, .widerDeep] true :=
  OpenClaim.laidByTextAt_later rfl rfl tie2 noOwnUnsafe
theorem gzipWritesUpto_row_tie : Rows.gzipWritesUptoRow.laidByTextAt .later Tryd.pinned [.data, .data, .data, .widerDeep, .widerDeep] true :=
  OpenClaim.laidByTextAt_later rfl rfl tie2 noOwnUnsafe
theorem gzipBackUpto_row_tie : Rows.gzipBackUptoRow.laidByTextAt .later Tryd.pinned [.data, .data, .data, .widerDeep, .widerDeep] true :=
  OpenClaim.laidByTextAt_later rfl rfl tie2 noOwnUnsafe
theorem gzipFindsUpto_row_tie : Rows.gzipFindsUptoRow.laidByTextAt .later Tryd.pinned [.data, .data, .data, .widerDeep, .widerDeep] true :=
  OpenClaim.laidByTextAt_later rfl rfl tie2 noOwnUnsafe
end Go.Proofs.YtoekecopfmohiaaDoor
