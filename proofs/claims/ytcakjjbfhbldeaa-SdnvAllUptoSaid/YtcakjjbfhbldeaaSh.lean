/- Walks of the helpers of layer 1's statements, third part: sameNumbers. -/
import Derived.Test.YtcakjjbfhbldeaaSg
import Derived.Deep.QuietTactic
import Derived.BigQuiet
set_option linter.unusedVariables false
set_option linter.unusedSimpArgs false
namespace Go.Proofs.Ytcakjjbfhbldeaa
open Go.RowKit

set_option maxRecDepth 100000 in
set_option maxHeartbeats 1600000 in
theorem same_any (A B : Option Addr) (n c d : Nat) (ok ok' : Nat → Prop) (l : List Nat) (w : World) (hr : Rd w ok 1 A n (wds l)) (hr' : Rd w ok' 1 B n (wds l)) (hn : n ≤ 17592186044000) :
    Calls Try.prog 24 #[.slice A n c, .slice B n d] w fun e w' => e = .returned (.bool true) ∧ Nw w w' := by
  have hln : l.length = n := by have := hr.len; rwa [wds_len] at this
  subst hln
  go_enter Try.func24, Try.ntmps24
  go_wp2
  go_loopw [5] (fun i wr => ∃ k : Nat, k ≤ l.length ∧ i = .int .i64 k ∧ Nw w wr) (fun i _ => l.length - (intOf i).toNat)
  case atStart => exact ⟨0, by omega, rfl, Kp.refl _ _⟩
  case round =>
    obtain ⟨k, hk, rfl, hnw⟩ := hrel
    by_cases hlt : k < l.length
    · obtain ⟨ad, rfl, _, hc⟩ := (hr.nw hnw).word hlt
      obtain ⟨ad', rfl, _, hc'⟩ := (hr'.nw hnw).word hlt
      generalize l[k] = x at *
      have k0 : (0 : Int) ≤ (k : Int) := by omega
      have k1 : (k : Int) < (l.length : Int) := by omega
      go_wp2
      go_quiet (fail)
      go_wp2
      go_roundw
      case rel => exact ⟨k + 1, by omega, by go_num, Kp.drewN hnw _⟩
      case measure => simp [intOf]; omega
    · go_wp2
      go_ret
      exact ⟨rfl, hnw⟩

end Go.Proofs.Ytcakjjbfhbldeaa
