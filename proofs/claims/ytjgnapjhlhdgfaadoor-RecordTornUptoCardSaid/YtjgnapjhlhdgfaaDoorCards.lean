/-
  DERIVED. GIVEN WITH THE SEED: THE CARDS: each row of YtjgnapjhlhdgfaaDoorRows.lean that lists a variable, with what it lists TIED to the program's text (the seventh form; the later family's looks); each row that meets fmt, with fmt's text TOLD by the authors' own Lean function (tested against real Go, not proved from fmt's source: count such statements apart). THE CARD IS WHAT COUNTS. Prove the row's statement (the work); the ties are given (YtjgnapjhlhdgfaaDoorTie.lean); close each card by the builder's one call (the guide's Derived/Test/ToyasCard.lean, 'card_holds'). Laid BY PROGRAM, IN A SANDBOX (cutbox-door.mjs). By AI agents, Wed Nov 11 2026. No macro, syntax, notation, axiom, sorry.
-/
import Derived.Test.YtjgnapjhlhdgfaaDoorRows
import GoSem.ClaimSeven
namespace Go.Proofs.YtjgnapjhlhdgfaaDoor
namespace Rows

/-- THE TIED CARD OF 'lanternlaw06.RecordSums'. -/
def recordSumsCard : Claim7 := { stood := { row := recordSumsRow, standIns := [], harness := (true, "cfd11a7e6f7a3aba2c3b1fdff4e5d79e7ebc9751667b3161ddbc51c3c6999b46"), looks := true }, kinds := [], alts := [], laidByText := true, laidKinds := [.data], laidTests := true, laidLooks := .later }
def RecordSumsCardSaid : Prop := Claim7.holds Tryd.pinned (.plain (OpenSpec.ofChange recordSumsSpec)) recordSumsCard

/-- THE TIED CARD OF 'lanternlaw06.RecordScans'. -/
def recordScansCard : Claim7 := { stood := { row := recordScansRow, standIns := [], harness := (true, "cfd11a7e6f7a3aba2c3b1fdff4e5d79e7ebc9751667b3161ddbc51c3c6999b46"), looks := true }, kinds := [], alts := [], laidByText := true, laidKinds := [.data], laidTests := true, laidLooks := .later }
def RecordScansCardSaid : Prop := Claim7.holds Tryd.pinned (.plain (OpenSpec.ofChange recordScansSpec)) recordScansCard

/-- THE TIED CARD OF 'lanternlaw06.RecordFrames'. -/
def recordFramesCard : Claim7 := { stood := { row := recordFramesRow, standIns := [], harness := (true, "cfd11a7e6f7a3aba2c3b1fdff4e5d79e7ebc9751667b3161ddbc51c3c6999b46"), looks := true }, kinds := [], alts := [], laidByText := true, laidKinds := [.data], laidTests := true, laidLooks := .later }
def RecordFramesCardSaid : Prop := Claim7.holds Tryd.pinned (.plain (OpenSpec.ofChange recordFramesSpec)) recordFramesCard

/-- THE TIED CARD OF 'lanternlaw06.RecordTorn'. -/
def recordTornCard : Claim7 := { stood := { row := recordTornRow, standIns := [], harness := (true, "cfd11a7e6f7a3aba2c3b1fdff4e5d79e7ebc9751667b3161ddbc51c3c6999b46"), looks := true }, kinds := [], alts := [], laidByText := true, laidKinds := [.data], laidTests := true, laidLooks := .later }
def RecordTornCardSaid : Prop := Claim7.holds Tryd.pinned (.plain (OpenSpec.ofChange recordTornSpec)) recordTornCard

/-- THE TIED CARD OF 'lanternlaw07.JournalNames'. -/
def journalNamesCard : Claim7 := { stood := { row := journalNamesRow, standIns := [], harness := (true, "cfd11a7e6f7a3aba2c3b1fdff4e5d79e7ebc9751667b3161ddbc51c3c6999b46"), looks := true }, kinds := [], alts := [], laidByText := true, laidKinds := [.sentinel, .sentinel, .sentinel, .data], laidTests := true, laidLooks := .later }
def JournalNamesCardSaid : Prop := Claim7.holds Tryd.pinned (.plain (OpenSpec.ofChange journalNamesSpec)) journalNamesCard

/-- THE SECOND FORM's CARD OF 'lanternlaw06.RecordSums'. -/
def recordSumsUptoCard : Claim7 := { stood := { row := recordSumsUptoRow, standIns := [], harness := (true, "cfd11a7e6f7a3aba2c3b1fdff4e5d79e7ebc9751667b3161ddbc51c3c6999b46"), looks := true }, kinds := [], alts := [], laidByText := true, laidKinds := [.data], laidTests := true, laidLooks := .later }
def RecordSumsUptoCardSaid : Prop := Claim7.holds Tryd.pinned (.plain (OpenSpec.upto recordSumsSpec)) recordSumsUptoCard

/-- THE SECOND FORM's CARD OF 'lanternlaw06.RecordScans'. -/
def recordScansUptoCard : Claim7 := { stood := { row := recordScansUptoRow, standIns := [], harness := (true, "cfd11a7e6f7a3aba2c3b1fdff4e5d79e7ebc9751667b3161ddbc51c3c6999b46"), looks := true }, kinds := [], alts := [], laidByText := true, laidKinds := [.data], laidTests := true, laidLooks := .later }
def RecordScansUptoCardSaid : Prop := Claim7.holds Tryd.pinned (.plain (OpenSpec.upto recordScansSpec)) recordScansUptoCard

/-- THE SECOND FORM's CARD OF 'lanternlaw06.RecordFrames'. -/
def recordFramesUptoCard : Claim7 := { stood := { row := recordFramesUptoRow, standIns := [], harness := (true, "cfd11a7e6f7a3aba2c3b1fdff4e5d79e7ebc9751667b3161ddbc51c3c6999b46"), looks := true }, kinds := [], alts := [], laidByText := true, laidKinds := [.data], laidTests := true, laidLooks := .later }
def RecordFramesUptoCardSaid : Prop := Claim7.holds Tryd.pinned (.plain (OpenSpec.upto recordFramesSpec)) recordFramesUptoCard

/-- THE SECOND FORM's CARD OF 'lanternlaw06.RecordTorn'. -/
def recordTornUptoCard : Claim7 := { stood := { row := recordTornUptoRow, standIns := [], harness := (true, "cfd11a7e6f7a3aba2c3b1fdff4e5d79e7ebc9751667b3161ddbc51c3c6999b46"), looks := true }, kinds := [], alts := [], laidByText := true, laidKinds := [.data], laidTests := true, laidLooks := .later }
def RecordTornUptoCardSaid : Prop := Claim7.holds Tryd.pinned (.plain (OpenSpec.upto recordTornSpec)) recordTornUptoCard

/-- THE SECOND FORM's CARD OF 'lanternlaw07.JournalNames'. -/
def journalNamesUptoCard : Claim7 := { stood := { row := journalNamesUptoRow, standIns := [], harness := (true, "cfd11a7e6f7a3aba2c3b1fdff4e5d79e7ebc9751667b3161ddbc51c3c6999b46"), looks := true }, kinds := [], alts := [], laidByText := true, laidKinds := [.sentinel, .sentinel, .sentinel, .data], laidTests := true, laidLooks := .later }
def JournalNamesUptoCardSaid : Prop := Claim7.holds Tryd.pinned (.plain (OpenSpec.upto journalNamesSpec)) journalNamesUptoCard
end Rows
end Go.Proofs.YtjgnapjhlhdgfaaDoor
