/- Records: equal bytes, equal records are told to be the same; the first example. -/
import Derived.Test.YtjgnapjhlhdgfaaRk
set_option linter.unusedVariables false
set_option linter.unusedSimpArgs false
namespace Go.Proofs.Ytjgnapjhlhdgfaa
open Go.RowKit

set_option maxRecDepth 100000 in
set_option maxHeartbeats 1600000 in
theorem sameb_any (A A' : Option Addr) (n c c' : Nat) (ok ok' : Nat → Prop) (l : List UInt8) (w : World) (hr : Rd w ok 1 A n (bys l)) (hr' : Rd w ok' 1 A' n (bys l)) (hn : n ≤ 9223372036854775806) :
    Calls Try.prog 12 #[.slice A n c, .slice A' n c'] w fun e w' => e = .returned (.bool true) ∧ Nw w w' := by
  have hl : l.length = n := by have := hr.len; rwa [bys_len] at this
  have HL := Lib.hid hl
  have hnn : ((n : Int) != (n : Int)) = false := by simp
  clear hl
  go_enter Try.func12, Try.ntmps12
  go_wp2
  go_loopw [5] (fun i wr => ∃ k : Nat, k ≤ n ∧ i = .int .i64 k ∧ Nw w wr) (fun i _ => n - (intOf i).toNat)
  case atStart => exact ⟨0, by omega, rfl, Kp.refl _ _⟩
  case round =>
    obtain ⟨k, hk, rfl, hnw⟩ := hrel
    by_cases hlt : k < n
    · obtain ⟨ad, rfl, _, hc⟩ := (hr.nw hnw).byte (k := k) (by rw [HL.out]; exact hlt)
      obtain ⟨ad', rfl, _, hc'⟩ := (hr'.nw hnw).byte (k := k) (by rw [HL.out]; exact hlt)
      generalize (l[k]'(by rw [HL.out]; exact hlt)).toNat = x at *
      have hx : ((x : Int) != (x : Int)) = false := by simp
      have h1 : (k : Int) < (n : Int) := by omega
      have h0 : (0 : Int) ≤ (k : Int) := by omega
      go_wp2
      go_quiet (fail)
      go_wp2
      go_roundw
      case rel => exact ⟨k + 1, by omega, by go_num, hnw.drewN _⟩
      case measure => simp [intOf]; omega
    · go_wp2
      go_ret
      exact ⟨rfl, hnw⟩

theorem awake_bytes : prO ⟨2, 0, 0, 0, 0, 0, 0, 300, 0, none, 0, 0, none, 0, 0⟩ [] [] = [2, 130, 44] := by
  have h1 : okR ⟨2, 0, 0, 0, 0, 0, 0, 300, 0, none, 0, 0, none, 0, 0⟩ [] = true := by decide
  unfold prO
  rw [if_pos h1]
  have e : enc 300 = [130, 44] := by
    have h2 : dg0 2 = [2] := by rw [dg0_pos (by omega), show 2 / 128 = 0 from rfl, dg0_zero]; rfl
    unfold enc hi0
    rw [show 300 / 128 = 2 from rfl, h2]
    rfl
  unfold prR
  show UInt8.ofNat 2 :: (enc 300 ++ []) = _
  rw [e]
  rfl
theorem awake_ok : okR ⟨2, 0, 0, 0, 0, 0, 0, 300, 0, none, 0, 0, none, 0, 0⟩ [] = true := by decide

set_option maxRecDepth 100000 in
set_option maxHeartbeats 1600000 in
theorem awake_any (w : World) : Calls Try.prog 6 #[] w fun e w' => e = .returned (.bool true) ∧ Nw w w' := by
  have hp := fun W => rprint_any ⟨2, 0, 0, 0, 0, 0, 0, 300, 0, none, 0, 0, none, 0, 0⟩ (fun _ => True) (fun _ => True) [] [] W Rd.nil_ Rd.nil_ (by simp) (by simp)
  rw [awake_bytes, awake_ok] at hp
  have HP := Lib.hid hp
  clear hp
  go_enter Try.func6, Try.ntmps6
  go_wp2_with fail
  refine (HP.out _).mono ?_
  rintro e w2 ⟨v2, rfl, ho2, hnw2⟩
  obtain ⟨A, c, rfl, _, hr⟩ := own_read ho2
  obtain ⟨ad, rfl, _, hc0⟩ := hr.byte (k := 0) (by simp)
  obtain ⟨ad1, e1, _, hc1⟩ := hr.byte (k := 1) (by simp)
  obtain ⟨ad2, e2, _, hc2⟩ := hr.byte (k := 2) (by simp)
  injection e1 with e1
  injection e2 with e2
  subst e1
  subst e2
  rw [add_zero_] at hc0
  have h3 : ([2, 130, 44] : List UInt8).length = 3 := rfl
  have g0 : (([2, 130, 44] : List UInt8)[0]'(by simp)).toNat = 2 := rfl
  have g1 : (([2, 130, 44] : List UInt8)[1]'(by simp)).toNat = 130 := rfl
  have g2 : (([2, 130, 44] : List UInt8)[2]'(by simp)).toNat = 44 := rfl
  rw [g0] at hc0
  rw [g1] at hc1
  rw [g2] at hc2
  unfold errR
  rw [h3]
  simp only [if_true]
  have hd1 : w2.cell? ⟨ad.block, ad.off + 1, none⟩ = some (.int .u8 130) := hc1
  have hd2 : w2.cell? ⟨ad.block, ad.off + 2, none⟩ = some (.int .u8 44) := hc2
  clear ho2 hr h3 g0 g1 g2 hc1 hc2
  go_wp2
  go_ret
  exact ⟨rfl, hnw2⟩

end Go.Proofs.Ytjgnapjhlhdgfaa
