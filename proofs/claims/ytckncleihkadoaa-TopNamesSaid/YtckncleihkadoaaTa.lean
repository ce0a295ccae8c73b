/- Walks of the top statements, first part: TopNames. -/
import Derived.Test.YtckncleihkadoaaRows
import Derived.Test.YtckncleihkadoaaWd
set_option linter.unusedVariables false
set_option linter.unusedSimpArgs false
namespace Go.Proofs.Ytckncleihkadoaa
open Go.RowKit

theorem law_TopNames (w : World) : Calls Try.prog 3 #[] w fun e w' => e = .returned (.bool true) ∧ Nw w w' := by
  go_enter Try.func3, Try.ntmps3
  go_wp2_with go_in
  go_ret
  exact ⟨rfl, Kp.refl _ _⟩

end Go.Proofs.Ytckncleihkadoaa
