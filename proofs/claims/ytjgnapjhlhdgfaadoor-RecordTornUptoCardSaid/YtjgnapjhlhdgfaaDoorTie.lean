/-
  DERIVED. GIVEN WITH THE SEED: THE PROGRAM's TIES (one call each: nine closed facts by the kernel) AND EACH ROW's TIE, after the 31st guide's Derived/Test/Toyas{Tie, Card}.lean. No idea stands in it: it is a product of the set-up. Laid BY PROGRAM, IN A SANDBOX (cutbox-door.mjs). By AI agents, Wed Nov 11 2026. No macro, syntax, notation, axiom, sorry.
-/
import Derived.Test.YtjgnapjhlhdgfaaDoorRows
import Derived.LaidByTextLater
import Derived.SevenTiedAt
import Derived.LaidSub
import Derived.LaidOnce
namespace Go.Proofs.YtjgnapjhlhdgfaaDoor
open Go
set_option maxRecDepth 100000
theorem seatTie1 : Tryd.prog.laidByTextLater [("lantern/disk.ErrFull", Rows.laid_lantern_disk_ErrFull), ("lantern/disk.ErrDown", Rows.laid_lantern_disk_ErrDown), ("lantern/disk.ErrNone", Rows.laid_lantern_disk_ErrNone), ("lantern/record.sums", Rows.laid_lantern_record_sums)] [.sentinel, .sentinel, .sentinel, .data] true :=
  Program.laidByTextLater_by_one 71 8 17 (by kernel_rfl) (by kernel_rfl) (by kernel_rfl) (by kernel_rfl) (by kernel_rfl) (by kernel_rfl) (fun _ _ => by kernel_rfl)
theorem noOwnUnsafe : Tryd.pinned.checked.prog.headLifts.contains "ownunsafe" = false := by kernel_rfl
theorem tie : Tryd.prog.laidByTextLater [("lantern/record.sums", Rows.laid_lantern_record_sums)] [.data] true :=
  Program.laidByTextLater.sub seatTie1 ["lantern/record.sums"] (by kernel_rfl) (by kernel_rfl)
theorem recordSums_row_tie : Rows.recordSumsRow.laidByTextAt .later Tryd.pinned [.data] true :=
  OpenClaim.laidByTextAt_later rfl rfl tie noOwnUnsafe
theorem recordScans_row_tie : Rows.recordScansRow.laidByTextAt .later Tryd.pinned [.data] true :=
  OpenClaim.laidByTextAt_later rfl rfl tie noOwnUnsafe
theorem recordFrames_row_tie : Rows.recordFramesRow.laidByTextAt .later Tryd.pinned [.data] true :=
  OpenClaim.laidByTextAt_later rfl rfl tie noOwnUnsafe
theorem recordTorn_row_tie : Rows.recordTornRow.laidByTextAt .later Tryd.pinned [.data] true :=
  OpenClaim.laidByTextAt_later rfl rfl tie noOwnUnsafe
theorem tie2 : Tryd.prog.laidByTextLater [("lantern/disk.ErrFull", Rows.laid_lantern_disk_ErrFull), ("lantern/disk.ErrDown", Rows.laid_lantern_disk_ErrDown), ("lantern/disk.ErrNone", Rows.laid_lantern_disk_ErrNone), ("lantern/record.sums", Rows.laid_lantern_record_sums)] [.sentinel, .sentinel, .sentinel, .data] true :=
  Program.laidByTextLater.sub seatTie1 ["lantern/disk.ErrFull", "lantern/disk.ErrDown", "lantern/disk.ErrNone", "lantern/record.sums"] (by kernel_rfl) (by kernel_rfl)
theorem journalNames_row_tie : Rows.journalNamesRow.laidByTextAt .later Tryd.pinned [.sentinel, .sentinel, .sentinel, .data] true :=
  OpenClaim.laidByTextAt_later rfl rfl tie2 noOwnUnsafe
theorem recordSumsUpto_row_tie : Rows.recordSumsUptoRow.laidByTextAt .later Tryd.pinned [.data] true :=
  OpenClaim.laidByTextAt_later rfl rfl tie noOwnUnsafe
theorem recordScansUpto_row_tie : Rows.recordScansUptoRow.laidByTextAt .later Tryd.pinned [.data] true :=
  OpenClaim.laidByTextAt_later rfl rfl tie noOwnUnsafe
theorem recordFramesUpto_row_tie : Rows.recordFramesUptoRow.laidByTextAt .later Tryd.pinned [.data] true :=
  OpenClaim.laidByTextAt_later rfl rfl tie noOwnUnsafe
theorem recordTornUpto_row_tie : Rows.recordTornUptoRow.laidByTextAt .later Tryd.pinned [.data] true :=
  OpenClaim.laidByTextAt_later rfl rfl tie noOwnUnsafe
theorem journalNamesUpto_row_tie : Rows.journalNamesUptoRow.laidByTextAt .later Tryd.pinned [.sentinel, .sentinel, .sentinel, .data] true :=
  OpenClaim.laidByTextAt_later rfl rfl tie2 noOwnUnsafe
end Go.Proofs.YtjgnapjhlhdgfaaDoor
