/-
  NARROWER THAN 'FOR EVERY INPUT', by the rows' own cells (each row's printed sentence says how): RecordSums: laid · RecordScans: laid · RecordFrames: laid · RecordTorn: laid · JournalNames: laid.
  DERIVED. THE GIVEN ROWS OF THIS SEAT. 5 by the template 'for every input the law returns true; each argument reads behind the call as it read before'; 0 by the template 'total and deterministic' (their statements: YtjgnapjhlhdgfaaDoorTotals.lean).
  GIVEN WITH THE SEED: the statements are not yours to turn. If you find one false, say at which input.
  Laid BY PROGRAM, IN A SANDBOX (cutbox-rows.mjs): the forced cells as the released guide's own fill.sh prints them over the translation 2a2f22ff4d703a4c… (all of the seat's roots in one cut). By AI agents, Wed Nov 11 2026. No macro, syntax, notation, axiom, sorry.
-/
import Derived.Test.YtjgnapjhlhdgfaaDoorChecked
import GoSem.Claim
import GoSem.ClaimJoined
import GoSem.ClaimMapViews
import Derived.JoinedTies
import Derived.KernelRfl
namespace Go.Proofs.YtjgnapjhlhdgfaaDoor
/- THE CELL 'sum', in the pinned program and in every row, IS THE sha256 OF THE DUMP (.gsa) THAT YtjgnapjhlhdgfaaDoorProg.lean LOADS. Nothing in Lean hashes anything: it is a label: what it is worth is what the hold of that sum in a sandbox is worth. -/
noncomputable def Tryd.pinned : Pinned := { name := "ytjgnapjhlhdgfaadoor", sum := "2a2f22ff4d703a4c1593a6007a3efc91bd0717021fca065891bce8cd7fa8fe8b", checked := Tryd.checked }
namespace Rows
def none {H : Type} : Left H := { results := [], args := [] }

/- WHAT THE LISTED PACKAGE-LEVEL VARIABLES READ AS WHEN THE CALL BEGINS. Each datum BY PROGRAM (the guide's laid-datum.mjs) off the statement by which the dump's own 'gosem.cut.vars' lays the variable. In a bare row this is a premise. The card (YtjgnapjhlhdgfaaDoorCards.lean) ties it to the program's text. -/
def laid_lantern_record_sums {H : Type} : DataW H := .agg [.lit (.int .u32 0), .lit (.int .u32 498536548), .lit (.int .u32 997073096), .lit (.int .u32 651767980), .lit (.int .u32 1994146192), .lit (.int .u32 1802195444), .lit (.int .u32 1303535960), .lit (.int .u32 1342533948), .lit (.int .u32 3988292384), .lit (.int .u32 4027552580), .lit (.int .u32 3604390888), .lit (.int .u32 3412177804), .lit (.int .u32 2607071920), .lit (.int .u32 2262029012), .lit (.int .u32 2685067896), .lit (.int .u32 3183342108)]
def laid_lantern_disk_ErrFull {H : Type} : DataW H := .iface "*errors.errorString" (.ptr (.agg [.lit (.string [116, 104, 101, 32, 100, 105, 115, 107, 32, 104, 97, 115, 32, 110, 111, 32, 114, 111, 111, 109])]))
def laid_lantern_disk_ErrDown {H : Type} : DataW H := .iface "*errors.errorString" (.ptr (.agg [.lit (.string [116, 104, 101, 32, 100, 105, 115, 107, 32, 105, 115, 32, 100, 111, 119, 110])]))
def laid_lantern_disk_ErrNone {H : Type} : DataW H := .iface "*errors.errorString" (.ptr (.agg [.lit (.string [110, 111, 32, 115, 117, 99, 104, 32, 102, 105, 108, 101])]))

/-- 'lanternlaw06.RecordSums': WHATEVER THE INPUT: true; the input reads as it did. -/
def recordSumsSpec : ChangeSpec := { name := "recordSums", fn := fun _ => fun
  | [d1, d2, d3] => { results := [.lit (.bool true)], args := [d1, d2, d3] }
  | _ => none }
def recordSumsRow : OpenClaim := { program := "ytjgnapjhlhdgfaadoor", sum := "2a2f22ff4d703a4c1593a6007a3efc91bd0717021fca065891bce8cd7fa8fe8b", func := "lantern/lanternlaw06.RecordSums", spec := "recordSums", named := ["lantern/record.sums"], apart := false, laid := [("lantern/record.sums", laid_lantern_record_sums)] }
def RecordSumsSaid : Prop := recordSumsRow.holds Tryd.pinned (OpenSpec.ofChange recordSumsSpec)

/-- ITS FALSE NEIGHBOUR: 'it returns false'. Refute it at one input. -/
def recordSumsWrong : ChangeSpec := { name := "recordSums", fn := fun _ => fun
  | [d1, d2, d3] => { results := [.lit (.bool false)], args := [d1, d2, d3] }
  | _ => none }
def RecordSumsWrongFalsely : Prop := recordSumsRow.holds Tryd.pinned (OpenSpec.ofChange recordSumsWrong)

/-- 'lanternlaw06.RecordScans': WHATEVER THE INPUT: true; the input reads as it did. -/
def recordScansSpec : ChangeSpec := { name := "recordScans", fn := fun _ => fun
  | [d] => { results := [.lit (.bool true)], args := [d] }
  | _ => none }
def recordScansRow : OpenClaim := { program := "ytjgnapjhlhdgfaadoor", sum := "2a2f22ff4d703a4c1593a6007a3efc91bd0717021fca065891bce8cd7fa8fe8b", func := "lantern/lanternlaw06.RecordScans", spec := "recordScans", unfollowed := true, recurses := true, named := ["lantern/record.sums"], apart := false, laid := [("lantern/record.sums", laid_lantern_record_sums)] }
def RecordScansSaid : Prop := recordScansRow.holds Tryd.pinned (OpenSpec.ofChange recordScansSpec)

/-- ITS FALSE NEIGHBOUR: 'it returns false'. Refute it at one input. -/
def recordScansWrong : ChangeSpec := { name := "recordScans", fn := fun _ => fun
  | [d] => { results := [.lit (.bool false)], args := [d] }
  | _ => none }
def RecordScansWrongFalsely : Prop := recordScansRow.holds Tryd.pinned (OpenSpec.ofChange recordScansWrong)

/-- 'lanternlaw06.RecordFrames': WHATEVER THE INPUT: true; the input reads as it did. -/
def recordFramesSpec : ChangeSpec := { name := "recordFrames", fn := fun _ => fun
  | [d1, d2, d3] => { results := [.lit (.bool true)], args := [d1, d2, d3] }
  | _ => none }
def recordFramesRow : OpenClaim := { program := "ytjgnapjhlhdgfaadoor", sum := "2a2f22ff4d703a4c1593a6007a3efc91bd0717021fca065891bce8cd7fa8fe8b", func := "lantern/lanternlaw06.RecordFrames", spec := "recordFrames", unfollowed := true, recurses := true, named := ["lantern/record.sums"], apart := false, laid := [("lantern/record.sums", laid_lantern_record_sums)] }
def RecordFramesSaid : Prop := recordFramesRow.holds Tryd.pinned (OpenSpec.ofChange recordFramesSpec)

/-- ITS FALSE NEIGHBOUR: 'it returns false'. Refute it at one input. -/
def recordFramesWrong : ChangeSpec := { name := "recordFrames", fn := fun _ => fun
  | [d1, d2, d3] => { results := [.lit (.bool false)], args := [d1, d2, d3] }
  | _ => none }
def RecordFramesWrongFalsely : Prop := recordFramesRow.holds Tryd.pinned (OpenSpec.ofChange recordFramesWrong)

/-- 'lanternlaw06.RecordTorn': WHATEVER THE INPUT: true; the input reads as it did. -/
def recordTornSpec : ChangeSpec := { name := "recordTorn", fn := fun _ => fun
  | [d1, d2, d3, d4, d5] => { results := [.lit (.bool true)], args := [d1, d2, d3, d4, d5] }
  | _ => none }
def recordTornRow : OpenClaim := { program := "ytjgnapjhlhdgfaadoor", sum := "2a2f22ff4d703a4c1593a6007a3efc91bd0717021fca065891bce8cd7fa8fe8b", func := "lantern/lanternlaw06.RecordTorn", spec := "recordTorn", unfollowed := true, recurses := true, named := ["lantern/record.sums"], apart := false, laid := [("lantern/record.sums", laid_lantern_record_sums)] }
def RecordTornSaid : Prop := recordTornRow.holds Tryd.pinned (OpenSpec.ofChange recordTornSpec)

/-- ITS FALSE NEIGHBOUR: 'it returns false'. Refute it at one input. -/
def recordTornWrong : ChangeSpec := { name := "recordTorn", fn := fun _ => fun
  | [d1, d2, d3, d4, d5] => { results := [.lit (.bool false)], args := [d1, d2, d3, d4, d5] }
  | _ => none }
def RecordTornWrongFalsely : Prop := recordTornRow.holds Tryd.pinned (OpenSpec.ofChange recordTornWrong)

/-- 'lanternlaw07.JournalNames': WHATEVER THE INPUT: true; the input reads as it did. -/
def journalNamesSpec : ChangeSpec := { name := "journalNames", fn := fun _ => fun
  | [] => { results := [.lit (.bool true)], args := [] }
  | _ => none }
def journalNamesRow : OpenClaim := { program := "ytjgnapjhlhdgfaadoor", sum := "2a2f22ff4d703a4c1593a6007a3efc91bd0717021fca065891bce8cd7fa8fe8b", func := "lantern/lanternlaw07.JournalNames", spec := "journalNames", inPlace := ["internal/reflectlite.TypeOf"], unfollowed := true, recurses := true, named := ["lantern/disk.ErrNone", "lantern/disk.ErrDown", "lantern/record.sums", "lantern/disk.ErrFull"], apart := false, laid := [("lantern/disk.ErrFull", laid_lantern_disk_ErrFull), ("lantern/disk.ErrDown", laid_lantern_disk_ErrDown), ("lantern/disk.ErrNone", laid_lantern_disk_ErrNone), ("lantern/record.sums", laid_lantern_record_sums)] }
def JournalNamesSaid : Prop := journalNamesRow.holds Tryd.pinned (OpenSpec.ofChange journalNamesSpec)

/-- ITS FALSE NEIGHBOUR: 'it returns false'. Refute it at one input. -/
def journalNamesWrong : ChangeSpec := { name := "journalNames", fn := fun _ => fun
  | [] => { results := [.lit (.bool false)], args := [] }
  | _ => none }
def JournalNamesWrongFalsely : Prop := journalNamesRow.holds Tryd.pinned (OpenSpec.ofChange journalNamesWrong)

/- THE SECOND FORM. 'bulk': how many values and letters a reading holds, each counted each time it is reached (what is shared counts as often as it is met; a slice's spare places count too). A statement '..UptoSaid' is the law's where the arguments, and the package variables that the reading takes, are together of bulk at most 1048576: NARROWER than '..Said'. Prove '..Said' where nothing that the law and all that it calls make is longer than what came in: it says more and counts as full. Else prove '..UptoSaid'. A law counts once. -/
mutual
def uptoBulk {H : Type} : DataW H → Nat
  | .lit (.string bytes) => bytes.length + 1
  | .lit _ => 1
  | .nil => 1
  | .ptr d => uptoBulk d + 1
  | .slice elems spare => uptoBulkAll elems + uptoBulkAll spare + 1
  | .agg parts => uptoBulkAll parts + 1
  | .iface _ d => uptoBulk d + 1
  | .map entries => uptoBulkEntries entries + 1
  | .held _ => 1
def uptoBulkAll {H : Type} : List (DataW H) → Nat
  | [] => 0
  | d :: r => uptoBulk d + uptoBulkAll r
def uptoBulkEntries {H : Type} : List (Lit × DataW H) → Nat
  | [] => 0
  | x :: r => uptoBulkEntry x + uptoBulkEntries r
def uptoBulkEntry {H : Type} : Lit × DataW H → Nat
  | (.string bytes, d) => bytes.length + uptoBulk d + 1
  | (_, d) => uptoBulk d + 1
 end
def uptoSmall : (H : Type) → List (DataW H) → Bool := fun _ ds => decide (uptoBulkAll ds ≤ 1048576)
def OpenSpec.upto (s : _root_.Go.ChangeSpec) : _root_.Go.OpenSpec := { _root_.Go.OpenSpec.ofChange s with cond := some uptoSmall }

/-- 'lanternlaw06.RecordSums', WHERE WHAT IT READS IS OF BULK AT MOST 1048576: true; the input reads as it did. -/
def recordSumsUptoRow : OpenClaim := { program := "ytjgnapjhlhdgfaadoor", sum := "2a2f22ff4d703a4c1593a6007a3efc91bd0717021fca065891bce8cd7fa8fe8b", func := "lantern/lanternlaw06.RecordSums", spec := "recordSums", named := ["lantern/record.sums"], apart := false, laid := [("lantern/record.sums", laid_lantern_record_sums)], narrowed := true }
def RecordSumsUptoSaid : Prop := recordSumsUptoRow.holds Tryd.pinned (OpenSpec.upto recordSumsSpec)

/-- 'lanternlaw06.RecordScans', WHERE WHAT IT READS IS OF BULK AT MOST 1048576: true; the input reads as it did. -/
def recordScansUptoRow : OpenClaim := { program := "ytjgnapjhlhdgfaadoor", sum := "2a2f22ff4d703a4c1593a6007a3efc91bd0717021fca065891bce8cd7fa8fe8b", func := "lantern/lanternlaw06.RecordScans", spec := "recordScans", unfollowed := true, recurses := true, named := ["lantern/record.sums"], apart := false, laid := [("lantern/record.sums", laid_lantern_record_sums)], narrowed := true }
def RecordScansUptoSaid : Prop := recordScansUptoRow.holds Tryd.pinned (OpenSpec.upto recordScansSpec)

/-- 'lanternlaw06.RecordFrames', WHERE WHAT IT READS IS OF BULK AT MOST 1048576: true; the input reads as it did. -/
def recordFramesUptoRow : OpenClaim := { program := "ytjgnapjhlhdgfaadoor", sum := "2a2f22ff4d703a4c1593a6007a3efc91bd0717021fca065891bce8cd7fa8fe8b", func := "lantern/lanternlaw06.RecordFrames", spec := "recordFrames", unfollowed := true, recurses := true, named := ["lantern/record.sums"], apart := false, laid := [("lantern/record.sums", laid_lantern_record_sums)], narrowed := true }
def RecordFramesUptoSaid : Prop := recordFramesUptoRow.holds Tryd.pinned (OpenSpec.upto recordFramesSpec)

/-- 'lanternlaw06.RecordTorn', WHERE WHAT IT READS IS OF BULK AT MOST 1048576: true; the input reads as it did. -/
def recordTornUptoRow : OpenClaim := { program := "ytjgnapjhlhdgfaadoor", sum := "2a2f22ff4d703a4c1593a6007a3efc91bd0717021fca065891bce8cd7fa8fe8b", func := "lantern/lanternlaw06.RecordTorn", spec := "recordTorn", unfollowed := true, recurses := true, named := ["lantern/record.sums"], apart := false, laid := [("lantern/record.sums", laid_lantern_record_sums)], narrowed := true }
def RecordTornUptoSaid : Prop := recordTornUptoRow.holds Tryd.pinned (OpenSpec.upto recordTornSpec)

/-- 'lanternlaw07.JournalNames', WHERE WHAT IT READS IS OF BULK AT MOST 1048576: true; the input reads as it did. -/
def journalNamesUptoRow : OpenClaim := { program := "ytjgnapjhlhdgfaadoor", sum := "2a2f22ff4d703a4c1593a6007a3efc91bd0717021fca065891bce8cd7fa8fe8b", func := "lantern/lanternlaw07.JournalNames", spec := "journalNames", inPlace := ["internal/reflectlite.TypeOf"], unfollowed := true, recurses := true, named := ["lantern/disk.ErrNone", "lantern/disk.ErrDown", "lantern/record.sums", "lantern/disk.ErrFull"], apart := false, laid := [("lantern/disk.ErrFull", laid_lantern_disk_ErrFull), ("lantern/disk.ErrDown", laid_lantern_disk_ErrDown), ("lantern/disk.ErrNone", laid_lantern_disk_ErrNone), ("lantern/record.sums", laid_lantern_record_sums)], narrowed := true }
def JournalNamesUptoSaid : Prop := journalNamesUptoRow.holds Tryd.pinned (OpenSpec.upto journalNamesSpec)

end Rows
end Go.Proofs.YtjgnapjhlhdgfaaDoor
