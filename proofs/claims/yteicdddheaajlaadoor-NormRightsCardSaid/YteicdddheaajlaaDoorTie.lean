/-
  DERIVED. GIVEN WITH THE SEED: THE PROGRAM's TIES (one call each: nine closed facts by the kernel) AND EACH ROW's TIE, after the 31st guide's Derived/Test/Toyas{Tie, Card}.lean. No idea stands in it: it is a product of the set-up. Laid BY PROGRAM, IN A SANDBOX (cutbox-door.mjs). By AI agents, Wed Nov 11 2026. No macro, syntax, notation, axiom, sorry.
-/
import Derived.Test.YteicdddheaajlaaDoorRows
import Derived.LaidByTextLater
import Derived.SevenTiedAt
import Derived.LaidSub
import Derived.LaidOnce
namespace Go.Proofs.YteicdddheaajlaaDoor
open Go
set_option maxRecDepth 100000
theorem seatTie1 : Tryd.prog.laidByTextLater [("pointillist/dec.next", Rows.laid_pointillist_dec_next), ("pointillist/dec.ends", Rows.laid_pointillist_dec_ends), ("pointillist/scan.blanks", Rows.laid_pointillist_scan_blanks), ("pointillist/path.signs", Rows.laid_pointillist_path_signs)] [.data, .data, .data, .widerDeep] true :=
  Program.laidByTextLater_by_one 48 8 37 (by kernel_rfl) (by kernel_rfl) (by kernel_rfl) (by kernel_rfl) (by kernel_rfl) (by kernel_rfl) (fun _ _ => by kernel_rfl)
theorem noOwnUnsafe : Tryd.pinned.checked.prog.headLifts.contains "ownunsafe" = false := by kernel_rfl
theorem tie : Tryd.prog.laidByTextLater [("pointillist/dec.next", Rows.laid_pointillist_dec_next), ("pointillist/dec.ends", Rows.laid_pointillist_dec_ends), ("pointillist/scan.blanks", Rows.laid_pointillist_scan_blanks), ("pointillist/path.signs", Rows.laid_pointillist_path_signs)] [.data, .data, .data, .widerDeep] true :=
  Program.laidByTextLater.sub seatTie1 ["pointillist/dec.next", "pointillist/dec.ends", "pointillist/scan.blanks", "pointillist/path.signs"] (by kernel_rfl) (by kernel_rfl)
theorem normParses_row_tie : Rows.normParsesRow.laidByTextAt .later Tryd.pinned [.data, .data, .data, .widerDeep] true :=
  OpenClaim.laidByTextAt_later rfl rfl tie noOwnUnsafe
theorem normMoves_row_tie : Rows.normMovesRow.laidByTextAt .later Tryd.pinned [.data, .data, .data, .widerDeep] true :=
  OpenClaim.laidByTextAt_later rfl rfl tie noOwnUnsafe
theorem normSplits_row_tie : Rows.normSplitsRow.laidByTextAt .later Tryd.pinned [.data, .data, .data, .widerDeep] true :=
  OpenClaim.laidByTextAt_later rfl rfl tie noOwnUnsafe
theorem normRights_row_tie : Rows.normRightsRow.laidByTextAt .later Tryd.pinned [.data, .data, .data, .widerDeep] true :=
  OpenClaim.laidByTextAt_later rfl rfl tie noOwnUnsafe
theorem normParsesUpto_row_tie : Rows.normParsesUptoRow.laidByTextAt .later Tryd.pinned [.data, .data, .data, .widerDeep] true :=
  OpenClaim.laidByTextAt_later rfl rfl tie noOwnUnsafe
theorem normMovesUpto_row_tie : Rows.normMovesUptoRow.laidByTextAt .later Tryd.pinned [.data, .data, .data, .widerDeep] true :=
  OpenClaim.laidByTextAt_later rfl rfl tie noOwnUnsafe
theorem normSplitsUpto_row_tie : Rows.normSplitsUptoRow.laidByTextAt .later Tryd.pinned [.data, .data, .data, .widerDeep] true :=
  OpenClaim.laidByTextAt_later rfl rfl tie noOwnUnsafe
theorem normRightsUpto_row_tie : Rows.normRightsUptoRow.laidByTextAt .later Tryd.pinned [.data, .data, .data, .widerDeep] true :=
  OpenClaim.laidByTextAt_later rfl rfl tie noOwnUnsafe
end Go.Proofs.YteicdddheaajlaaDoor
