/- Records: the program's fields and places. -/
import Derived.Test.YtjgnapjhlhdgfaaRd
set_option linter.unusedVariables false
set_option linter.unusedSimpArgs false
namespace Go.Proofs.Ytjgnapjhlhdgfaa
open Go.RowKit

def iv (n : Nat) : Value := .int .i64 (n : Int)
def ivs (l : List Nat) : List Value := l.map iv
theorem ivs_len (l : List Nat) : (ivs l).length = l.length := by simp [ivs]

set_option maxRecDepth 100000 in
set_option maxHeartbeats 1600000 in
theorem fields_any (k : Int) (w : World) :
    Calls Try.prog 24 #[.int .i64 k] w fun e w' => ∃ v, e = .returned v ∧ w'.ownsRow w.heap.size 3 1 v (fds k).length (ivs (fds k)) ∧ Nw w w' := by
  have hk : k = 1 ∨ k = 2 ∨ k = 3 ∨ k = 4 ∨ k = 5 ∨ k = 6 ∨ k = 7 ∨ k = 8 ∨ k = 9 ∨ k = 10 ∨ k = 11 ∨ k = 12 ∨ (k ≠ 1 ∧ k ≠ 2 ∧ k ≠ 3 ∧ k ≠ 4 ∧ k ≠ 5 ∧ k ≠ 6 ∧ k ≠ 7 ∧ k ≠ 8 ∧ k ≠ 9 ∧ k ≠ 10 ∧ k ≠ 11 ∧ k ≠ 12) := by omega
  rcases hk with rfl | rfl | rfl | rfl | rfl | rfl | rfl | rfl | rfl | rfl | rfl | rfl | ⟨h1, h2, h3, h4, h5, h6, h7, h8, h9, h10, h11, h12⟩
  all_goals
    go_enter Try.func24, Try.ntmps24
    go_wp2
    go_ret
  rotate_right
  · have : fds k = [] := by simp [fds, *]
    rw [this]
    exact ⟨_, rfl, World.ownsRow_nil _ _ _ _, Kp.refl _ _⟩
  all_goals exact ⟨_, rfl, own_lit w _ _ (by simp [maxLen, fds]) rfl (Nat.le_refl _), (Kp.refl _ _).alloc _⟩

set_option maxRecDepth 100000 in
set_option maxHeartbeats 1600000 in
theorem place_any (b : Nat) (i : Nat) (hi : i < 8) (w : World) :
    Calls Try.prog 25 #[.pointer (some ⟨b, 0, none⟩), .int .i64 (i : Int)] w fun e w' => e = .returned (.pointer (some ⟨b, i + 1, none⟩)) ∧ w = w' := by
  have : i = 0 ∨ i = 1 ∨ i = 2 ∨ i = 3 ∨ i = 4 ∨ i = 5 ∨ i = 6 ∨ i = 7 := by omega
  rcases this with rfl | rfl | rfl | rfl | rfl | rfl | rfl | rfl
  all_goals
    go_enter Try.func25, Try.ntmps25
    go_wp2
    go_ret
    exact ⟨rfl, rfl⟩

end Go.Proofs.Ytjgnapjhlhdgfaa
