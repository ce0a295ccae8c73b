/- Walks of the helpers of layer 1's statements, second part: back, sameNumbers. -/
import Derived.Test.YtcakjjbfhbldeaaSf
import Derived.Deep.QuietTactic
import Derived.BigQuiet
set_option linter.unusedVariables false
set_option linter.unusedSimpArgs false
namespace Go.Proofs.Ytcakjjbfhbldeaa
open Go.RowKit

def turn (b : UInt8) : UInt8 := UInt8.ofNat (b.toNat / 2 + 65)
theorem turn_toNat (b : UInt8) : (turn b).toNat = b.toNat / 2 + 65 := by
  have := b.toNat_lt
  simp only [turn, UInt8.toNat_ofNat']
  omega

theorem lent_get (xs : List UInt8) (k : Nat) (hk : k < xs.length + 9) : (xs ++ List.replicate 9 201)[k]? = some (if h : k < xs.length then xs[k] else 201) := by
  by_cases h : k < xs.length
  · rw [List.getElem?_append_left h]; simp [h]
  · rw [List.getElem?_append_right (by omega), List.getElem?_replicate]
    rw [if_pos (by omega)]
    simp [h]

set_option maxRecDepth 100000 in
set_option maxHeartbeats 1600000 in
theorem back_any (A : Option Addr) (n c : Nat) (ok : Nat → Prop) (xs : List UInt8) (w : World) (g base : Nat) (hr : Rd w ok 1 A n (bys xs)) (hn : n ≤ 140737488351232)
    (hown : w.ownsRow base 5 1 (.slice (some ⟨g, 0, none⟩) (n + 9) (n + 9)) (n + 9) (bys (xs ++ List.replicate 9 201))) (hok : ∀ k, ok k → k ≠ g) :
    Calls Try.prog 14 #[.slice (some ⟨g, 0, none⟩) (n + 9) (n + 9), .slice A n c] w fun e w' => e = .returned (.bool true) ∧
      w'.ownsRow base 5 1 (.slice (some ⟨g, 0, none⟩) (n + 9) (n + 9)) (n + 9) (bys ((xs ++ List.replicate 9 201).map turn)) ∧ Kp (fun k => k = g) w w' := by
  have hln : xs.length = n := by have := hr.len; rwa [bys_len] at this
  subst hln
  have hL : (xs ++ List.replicate 9 201).length = xs.length + 9 := by simp
  have HG := Lib.hid (lent_get xs)
  generalize hcs : xs ++ List.replicate 9 201 = cs at *
  have HL := Lib.hid hL
  clear hcs hL
  go_enter Try.func14, Try.ntmps14
  go_wp2
  go_loopw [5, 6] (fun q i wr => ∃ k : Nat, k ≤ xs.length + 9 ∧ i = .int .i64 k ∧ q = .bool true ∧ wr.ownsRow base 5 1 (.slice (some ⟨g, 0, none⟩) (xs.length + 9) (xs.length + 9)) (xs.length + 9) (bys (upd turn cs k)) ∧ Kp (fun k => k = g) w wr)
    (fun _ i _ => xs.length + 9 - (intOf i).toNat)
  case atStart => exact ⟨0, by omega, rfl, rfl, by rw [upd_zero]; exact hown, Kp.refl _ _⟩
  case round =>
    obtain ⟨k, hk, rfl, rfl, how, hkp⟩ := hrel
    have hrd : Rd wr ok 1 A xs.length (bys xs) := hr.kp hkp fun i hi e => hok i hi e
    by_cases hlt : k < xs.length + 9
    · have hkc : k < cs.length := by rw [HL.out]; exact hlt
      have hgk := HG.out k hlt
      have hc := own_byteAt how (k := k) (by rw [upd_len]; exact hkc) (upd_get turn cs k hkc)
      have hz := how.frozenAt k
      have hst := how.stored k (bv (turn cs[k]))
      rw [bys_set, upd_set turn cs k hkc] at hst
      have hcs : cs[k] = if h : k < xs.length then xs[k] else 201 := by
        rw [List.getElem?_eq_getElem hkc] at hgk
        injection hgk
      have hlt' : (k : Int) < (xs.length : Int) + 9 := by omega
      have hb := cs[k].toNat_lt
      have HV : Hid (bv (turn cs[k]) = .int .u8 (((cs[k]).toNat : Int) / 2 + 65)) := by
        show bv (turn cs[k]) = .int .u8 (((cs[k]).toNat : Int) / 2 + 65)
        unfold bv
        rw [turn_toNat]
        congr 1
      have HST := Lib.hid hst
      clear hst hgk how
      by_cases hx : k < xs.length
      · obtain ⟨ad, hA, _, hc2⟩ := hrd.byte hx
        rw [dif_pos hx] at hcs
        rw [← hcs] at hc2
        clear hcs hrd hr
        generalize cs[k] = b at *
        subst hA
        have hx' : (k : Int) < (xs.length : Int) := by omega
        go_wp2
        go_roundw
        case rel =>
          have h1 := HST.out
          rw [HV.out] at h1
          exact ⟨k + 1, by omega, by go_num, rfl, h1.1, hkp.one h1.2⟩
        case measure => simp [intOf]; omega
      · rw [dif_neg hx] at hcs
        have hx' : ¬ (k : Int) < (xs.length : Int) := by omega
        rw [hcs] at hc HST HV
        clear hcs hrd hr hb
        go_wp2
        go_roundw
        case rel =>
          have h1 := HST.out
          rw [HV.out] at h1
          exact ⟨k + 1, by omega, by go_num, rfl, h1.1, hkp.one h1.2⟩
        case measure => simp [intOf]; omega
    · have e : k = xs.length + 9 := by omega
      subst e
      have hlt' : ¬ ((xs.length + 9 : Nat) : Int) < (xs.length : Int) + 9 := by omega
      go_wp2
      go_ret
      rw [upd_all turn cs _ (by rw [HL.out]; exact Nat.le_refl _)] at how
      exact ⟨rfl, how, hkp⟩

end Go.Proofs.Ytcakjjbfhbldeaa
