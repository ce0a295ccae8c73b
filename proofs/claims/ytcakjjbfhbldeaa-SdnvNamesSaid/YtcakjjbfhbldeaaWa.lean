/- Walks of layer 1's statements, first part: SdnvNames. -/
import Derived.Test.YtcakjjbfhbldeaaSf
set_option linter.unusedVariables false
set_option linter.unusedSimpArgs false
namespace Go.Proofs.Ytcakjjbfhbldeaa
open Go.RowKit

theorem law_SdnvNames (w : World) : Calls Try.prog 3 #[] w fun e w' => e = .returned (.bool true) ∧ Nw w w' := by
  have HA := Lib.hid (awake_any w)
  go_enter Try.func3, Try.ntmps3
  go_wp2_with (first
    | (go_at_call 10; refine HA.out.mono ?_; rintro e w1 ⟨rfl, hnw1⟩)
    | go_in)
  go_ret
  exact ⟨rfl, hnw1⟩

end Go.Proofs.Ytcakjjbfhbldeaa
