/-
  No cell of these rows narrows 'for every input' (looked for: loops, veiled, ifaces, maps, wideKeys, modest, calm, conditions, laid).
  DERIVED. THE GIVEN ROWS OF THIS SEAT. 7 by the template 'for every input the law returns true; each argument reads behind the call as it read before'; 0 by the template 'total and deterministic' (their statements: YtcakjjbfhbldeaaTotals.lean).
  GIVEN WITH THE SEED: the statements are not yours to turn. If you find one false, say at which input.
  Laid BY PROGRAM, IN A SANDBOX (cutbox-rows.mjs): the forced cells as the released guide's own fill.sh prints them over the translation 2f4b6d69f72b655b… (all of the seat's roots in one cut). By AI agents, Wed Nov 11 2026. No macro, syntax, notation, axiom, sorry.
-/
import Derived.Test.YtcakjjbfhbldeaaChecked
import GoSem.Claim
import GoSem.ClaimJoined
import GoSem.ClaimMapViews
import Derived.JoinedTies
import Derived.KernelRfl
namespace Go.Proofs.Ytcakjjbfhbldeaa
/- THE CELL 'sum', in the pinned program and in every row, IS THE sha256 OF THE DUMP (.gsa) THAT YtcakjjbfhbldeaaProg.lean LOADS. Nothing in Lean hashes anything: it is a label: what it is worth is what the hold of that sum in a sandbox is worth. -/
noncomputable def Try.pinned : Pinned := { name := "ytcakjjbfhbldeaa", sum := "2f4b6d69f72b655bec2e5358abf758177af17a5e34027e1cba87488f04233502", checked := Try.checked }
namespace Rows
def none {H : Type} : Left H := { results := [], args := [] }

/-- 'lanternlaw01.SdnvNames': WHATEVER THE INPUT: true; the input reads as it did. -/
def sdnvNamesSpec : ChangeSpec := { name := "sdnvNames", fn := fun _ => fun
  | [] => { results := [.lit (.bool true)], args := [] }
  | _ => none }
def sdnvNamesRow : OpenClaim := { program := "ytcakjjbfhbldeaa", sum := "2f4b6d69f72b655bec2e5358abf758177af17a5e34027e1cba87488f04233502", func := "lantern/lanternlaw01.SdnvNames", spec := "sdnvNames", apart := false }
def SdnvNamesSaid : Prop := sdnvNamesRow.holds Try.pinned (OpenSpec.ofChange sdnvNamesSpec)

/-- ITS FALSE NEIGHBOUR: 'it returns false'. Refute it at one input. -/
def sdnvNamesWrong : ChangeSpec := { name := "sdnvNames", fn := fun _ => fun
  | [] => { results := [.lit (.bool false)], args := [] }
  | _ => none }
def SdnvNamesWrongFalsely : Prop := sdnvNamesRow.holds Try.pinned (OpenSpec.ofChange sdnvNamesWrong)

/-- 'lanternlaw01.SdnvReads': WHATEVER THE INPUT: true; the input reads as it did. -/
def sdnvReadsSpec : ChangeSpec := { name := "sdnvReads", fn := fun _ => fun
  | [d1, d2] => { results := [.lit (.bool true)], args := [d1, d2] }
  | _ => none }
def sdnvReadsRow : OpenClaim := { program := "ytcakjjbfhbldeaa", sum := "2f4b6d69f72b655bec2e5358abf758177af17a5e34027e1cba87488f04233502", func := "lantern/lanternlaw01.SdnvReads", spec := "sdnvReads", apart := false }
def SdnvReadsSaid : Prop := sdnvReadsRow.holds Try.pinned (OpenSpec.ofChange sdnvReadsSpec)

/-- ITS FALSE NEIGHBOUR: 'it returns false'. Refute it at one input. -/
def sdnvReadsWrong : ChangeSpec := { name := "sdnvReads", fn := fun _ => fun
  | [d1, d2] => { results := [.lit (.bool false)], args := [d1, d2] }
  | _ => none }
def SdnvReadsWrongFalsely : Prop := sdnvReadsRow.holds Try.pinned (OpenSpec.ofChange sdnvReadsWrong)

/-- 'lanternlaw01.SdnvRises': WHATEVER THE INPUT: true; the input reads as it did. -/
def sdnvRisesSpec : ChangeSpec := { name := "sdnvRises", fn := fun _ => fun
  | [d1, d2] => { results := [.lit (.bool true)], args := [d1, d2] }
  | _ => none }
def sdnvRisesRow : OpenClaim := { program := "ytcakjjbfhbldeaa", sum := "2f4b6d69f72b655bec2e5358abf758177af17a5e34027e1cba87488f04233502", func := "lantern/lanternlaw01.SdnvRises", spec := "sdnvRises", apart := false }
def SdnvRisesSaid : Prop := sdnvRisesRow.holds Try.pinned (OpenSpec.ofChange sdnvRisesSpec)

/-- ITS FALSE NEIGHBOUR: 'it returns false'. Refute it at one input. -/
def sdnvRisesWrong : ChangeSpec := { name := "sdnvRises", fn := fun _ => fun
  | [d1, d2] => { results := [.lit (.bool false)], args := [d1, d2] }
  | _ => none }
def SdnvRisesWrongFalsely : Prop := sdnvRisesRow.holds Try.pinned (OpenSpec.ofChange sdnvRisesWrong)

/-- 'lanternlaw01.SdnvWrites': WHATEVER THE INPUT: true; the input reads as it did. -/
def sdnvWritesSpec : ChangeSpec := { name := "sdnvWrites", fn := fun _ => fun
  | [d] => { results := [.lit (.bool true)], args := [d] }
  | _ => none }
def sdnvWritesRow : OpenClaim := { program := "ytcakjjbfhbldeaa", sum := "2f4b6d69f72b655bec2e5358abf758177af17a5e34027e1cba87488f04233502", func := "lantern/lanternlaw01.SdnvWrites", spec := "sdnvWrites", apart := false }
def SdnvWritesSaid : Prop := sdnvWritesRow.holds Try.pinned (OpenSpec.ofChange sdnvWritesSpec)

/-- ITS FALSE NEIGHBOUR: 'it returns false'. Refute it at one input. -/
def sdnvWritesWrong : ChangeSpec := { name := "sdnvWrites", fn := fun _ => fun
  | [d] => { results := [.lit (.bool false)], args := [d] }
  | _ => none }
def SdnvWritesWrongFalsely : Prop := sdnvWritesRow.holds Try.pinned (OpenSpec.ofChange sdnvWritesWrong)

/-- 'lanternlaw01.SdnvAll': WHATEVER THE INPUT: true; the input reads as it did. -/
def sdnvAllSpec : ChangeSpec := { name := "sdnvAll", fn := fun _ => fun
  | [d1, d2] => { results := [.lit (.bool true)], args := [d1, d2] }
  | _ => none }
def sdnvAllRow : OpenClaim := { program := "ytcakjjbfhbldeaa", sum := "2f4b6d69f72b655bec2e5358abf758177af17a5e34027e1cba87488f04233502", func := "lantern/lanternlaw01.SdnvAll", spec := "sdnvAll", apart := false }
def SdnvAllSaid : Prop := sdnvAllRow.holds Try.pinned (OpenSpec.ofChange sdnvAllSpec)

/-- ITS FALSE NEIGHBOUR: 'it returns false'. Refute it at one input. -/
def sdnvAllWrong : ChangeSpec := { name := "sdnvAll", fn := fun _ => fun
  | [d1, d2] => { results := [.lit (.bool false)], args := [d1, d2] }
  | _ => none }
def SdnvAllWrongFalsely : Prop := sdnvAllRow.holds Try.pinned (OpenSpec.ofChange sdnvAllWrong)

/-- 'lanternlaw01.SdnvBack': WHATEVER THE INPUT: true; the input reads as it did. -/
def sdnvBackSpec : ChangeSpec := { name := "sdnvBack", fn := fun _ => fun
  | [d1, d2] => { results := [.lit (.bool true)], args := [d1, d2] }
  | _ => none }
def sdnvBackRow : OpenClaim := { program := "ytcakjjbfhbldeaa", sum := "2f4b6d69f72b655bec2e5358abf758177af17a5e34027e1cba87488f04233502", func := "lantern/lanternlaw01.SdnvBack", spec := "sdnvBack", apart := false }
def SdnvBackSaid : Prop := sdnvBackRow.holds Try.pinned (OpenSpec.ofChange sdnvBackSpec)

/-- ITS FALSE NEIGHBOUR: 'it returns false'. Refute it at one input. -/
def sdnvBackWrong : ChangeSpec := { name := "sdnvBack", fn := fun _ => fun
  | [d1, d2] => { results := [.lit (.bool false)], args := [d1, d2] }
  | _ => none }
def SdnvBackWrongFalsely : Prop := sdnvBackRow.holds Try.pinned (OpenSpec.ofChange sdnvBackWrong)

/-- 'lanternlaw01.SdnvOne': WHATEVER THE INPUT: true; the input reads as it did. -/
def sdnvOneSpec : ChangeSpec := { name := "sdnvOne", fn := fun _ => fun
  | [d] => { results := [.lit (.bool true)], args := [d] }
  | _ => none }
def sdnvOneRow : OpenClaim := { program := "ytcakjjbfhbldeaa", sum := "2f4b6d69f72b655bec2e5358abf758177af17a5e34027e1cba87488f04233502", func := "lantern/lanternlaw01.SdnvOne", spec := "sdnvOne", apart := false }
def SdnvOneSaid : Prop := sdnvOneRow.holds Try.pinned (OpenSpec.ofChange sdnvOneSpec)

/-- ITS FALSE NEIGHBOUR: 'it returns false'. Refute it at one input. -/
def sdnvOneWrong : ChangeSpec := { name := "sdnvOne", fn := fun _ => fun
  | [d] => { results := [.lit (.bool false)], args := [d] }
  | _ => none }
def SdnvOneWrongFalsely : Prop := sdnvOneRow.holds Try.pinned (OpenSpec.ofChange sdnvOneWrong)

/- THE SECOND FORM. 'bulk': how many values and letters a reading holds, each counted each time it is reached (what is shared counts as often as it is met; a slice's spare places count too). A statement '..UptoSaid' is the law's where the arguments, and the package variables that the reading takes, are together of bulk at most 1048576: NARROWER than '..Said'. Prove '..Said' where nothing that the law and all that it calls make is longer than what came in: it says more and counts as full. Else prove '..UptoSaid'. A law counts once. -/
mutual
def uptoBulk {H : Type} : DataW H → Nat
  | .lit (.string bytes) => bytes.length + 1
  | .lit _ => 1
  | .nil => 1
  | .ptr d => uptoBulk d + 1
  | .slice elems spare => uptoBulkAll elems + uptoBulkAll spare + 1
  | .agg parts => uptoBulkAll parts + 1
  | .iface _ d => uptoBulk d + 1
  | .map entries => uptoBulkEntries entries + 1
  | .held _ => 1
def uptoBulkAll {H : Type} : List (DataW H) → Nat
  | [] => 0
  | d :: r => uptoBulk d + uptoBulkAll r
def uptoBulkEntries {H : Type} : List (Lit × DataW H) → Nat
  | [] => 0
  | x :: r => uptoBulkEntry x + uptoBulkEntries r
def uptoBulkEntry {H : Type} : Lit × DataW H → Nat
  | (.string bytes, d) => bytes.length + uptoBulk d + 1
  | (_, d) => uptoBulk d + 1
 end
def uptoSmall : (H : Type) → List (DataW H) → Bool := fun _ ds => decide (uptoBulkAll ds ≤ 1048576)
def OpenSpec.upto (s : _root_.Go.ChangeSpec) : _root_.Go.OpenSpec := { _root_.Go.OpenSpec.ofChange s with cond := some uptoSmall }

/-- 'lanternlaw01.SdnvNames', WHERE WHAT IT READS IS OF BULK AT MOST 1048576: true; the input reads as it did. -/
def sdnvNamesUptoRow : OpenClaim := { program := "ytcakjjbfhbldeaa", sum := "2f4b6d69f72b655bec2e5358abf758177af17a5e34027e1cba87488f04233502", func := "lantern/lanternlaw01.SdnvNames", spec := "sdnvNames", apart := false, narrowed := true }
def SdnvNamesUptoSaid : Prop := sdnvNamesUptoRow.holds Try.pinned (OpenSpec.upto sdnvNamesSpec)

/-- 'lanternlaw01.SdnvReads', WHERE WHAT IT READS IS OF BULK AT MOST 1048576: true; the input reads as it did. -/
def sdnvReadsUptoRow : OpenClaim := { program := "ytcakjjbfhbldeaa", sum := "2f4b6d69f72b655bec2e5358abf758177af17a5e34027e1cba87488f04233502", func := "lantern/lanternlaw01.SdnvReads", spec := "sdnvReads", apart := false, narrowed := true }
def SdnvReadsUptoSaid : Prop := sdnvReadsUptoRow.holds Try.pinned (OpenSpec.upto sdnvReadsSpec)

/-- 'lanternlaw01.SdnvRises', WHERE WHAT IT READS IS OF BULK AT MOST 1048576: true; the input reads as it did. -/
def sdnvRisesUptoRow : OpenClaim := { program := "ytcakjjbfhbldeaa", sum := "2f4b6d69f72b655bec2e5358abf758177af17a5e34027e1cba87488f04233502", func := "lantern/lanternlaw01.SdnvRises", spec := "sdnvRises", apart := false, narrowed := true }
def SdnvRisesUptoSaid : Prop := sdnvRisesUptoRow.holds Try.pinned (OpenSpec.upto sdnvRisesSpec)

/-- 'lanternlaw01.SdnvWrites', WHERE WHAT IT READS IS OF BULK AT MOST 1048576: true; the input reads as it did. -/
def sdnvWritesUptoRow : OpenClaim := { program := "ytcakjjbfhbldeaa", sum := "2f4b6d69f72b655bec2e5358abf758177af17a5e34027e1cba87488f04233502", func := "lantern/lanternlaw01.SdnvWrites", spec := "sdnvWrites", apart := false, narrowed := true }
def SdnvWritesUptoSaid : Prop := sdnvWritesUptoRow.holds Try.pinned (OpenSpec.upto sdnvWritesSpec)

/-- 'lanternlaw01.SdnvAll', WHERE WHAT IT READS IS OF BULK AT MOST 1048576: true; the input reads as it did. -/
def sdnvAllUptoRow : OpenClaim := { program := "ytcakjjbfhbldeaa", sum := "2f4b6d69f72b655bec2e5358abf758177af17a5e34027e1cba87488f04233502", func := "lantern/lanternlaw01.SdnvAll", spec := "sdnvAll", apart := false, narrowed := true }
def SdnvAllUptoSaid : Prop := sdnvAllUptoRow.holds Try.pinned (OpenSpec.upto sdnvAllSpec)

/-- 'lanternlaw01.SdnvBack', WHERE WHAT IT READS IS OF BULK AT MOST 1048576: true; the input reads as it did. -/
def sdnvBackUptoRow : OpenClaim := { program := "ytcakjjbfhbldeaa", sum := "2f4b6d69f72b655bec2e5358abf758177af17a5e34027e1cba87488f04233502", func := "lantern/lanternlaw01.SdnvBack", spec := "sdnvBack", apart := false, narrowed := true }
def SdnvBackUptoSaid : Prop := sdnvBackUptoRow.holds Try.pinned (OpenSpec.upto sdnvBackSpec)

/-- 'lanternlaw01.SdnvOne', WHERE WHAT IT READS IS OF BULK AT MOST 1048576: true; the input reads as it did. -/
def sdnvOneUptoRow : OpenClaim := { program := "ytcakjjbfhbldeaa", sum := "2f4b6d69f72b655bec2e5358abf758177af17a5e34027e1cba87488f04233502", func := "lantern/lanternlaw01.SdnvOne", spec := "sdnvOne", apart := false, narrowed := true }
def SdnvOneUptoSaid : Prop := sdnvOneUptoRow.holds Try.pinned (OpenSpec.upto sdnvOneSpec)

end Rows
end Go.Proofs.Ytcakjjbfhbldeaa
