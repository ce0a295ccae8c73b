/- Walks of layer 1 (sdnv), second part: Join and All. -/
import Derived.Test.YtjgnapjhlhdgfaaDoorSa
set_option linter.unusedVariables false
set_option linter.unusedSimpArgs false
namespace Go.Proofs.YtjgnapjhlhdgfaaDoor
open Go.RowKit

theorem Tryd.elU64 : Elem Tryd.prog 86 84 (.int .u64 0) 1 8 := ⟨Tryd.underlying86, by kernel_rfl, rfl, by omega⟩

theorem joinE_take_le (l : List Nat) (k : Nat) (h : ∀ n ∈ l, n < 18446744073709551616) : (joinE (l.take k)).length ≤ 10 * l.length := by
  have h1 := joinE_len (l.take k) fun n hn => h n (List.mem_of_mem_take hn)
  have h2 : (l.take k).length ≤ l.length := by simp; omega
  omega
theorem joinE_take_succ (l : List Nat) (k : Nat) (hk : k < l.length) : joinE (l.take (k + 1)) = joinE (l.take k) ++ enc l[k] := by
  rw [List.take_succ_eq_append_getElem hk, joinE_snoc]

set_option maxHeartbeats 800000 in
theorem join_any (A : Option Addr) (n c : Nat) (ok : Nat → Prop) (l : List Nat) (w : World) (hr : Rd w ok 1 A n (wds l)) (hl : ∀ x ∈ l, x < 18446744073709551616) (hn : 10 * n ≤ 140737488350000) :
    Calls Tryd.prog 46 #[.slice A n c] w fun e w' => ∃ v, e = .returned v ∧ w'.ownsRow w.heap.size 5 1 v (joinE l).length (bys (joinE l)) ∧ Nw w w' := by
  have hln : l.length = n := by have := hr.len; rwa [wds_len] at this
  subst hln
  go_enter Tryd.func46, Tryd.ntmps46
  go_wp2
  go_loopw [3, 8] (fun v i wr => ∃ k : Nat, k ≤ l.length ∧ i = .int .i64 k ∧ wr.ownsRow w.heap.size 5 1 v (joinE (l.take k)).length (bys (joinE (l.take k))) ∧ Nw w wr)
    (fun _ i _ => l.length - (intOf i).toNat)
  case atStart => exact ⟨0, by omega, rfl, by simpa [joinE, bys] using World.ownsRow_nil w _ _ _, Kp.refl _ _⟩
  case round =>
    obtain ⟨k, hk, rfl, hown, hnw⟩ := hrel
    by_cases hlt : k < l.length
    · obtain ⟨ad, rfl, _, hc⟩ := (hr.nw hnw).word hlt
      have hx : l[k] < 18446744073709551616 := hl _ (List.getElem_mem hlt)
      have hj := joinE_take_le l k hl
      have HT := Lib.hid (joinE_take_succ l k hlt)
      have hsz := hnw.size
      generalize l[k] = x at *
      go_wp2_with (go_at_call 68; refine (put_any _ _ _ _ _ _ (by omega) (by omega) hown hsz (by omega)).mono ?_; rintro e w' ⟨v1, rfl, hown1, hkp1, hat1⟩)
      go_roundw
      case rel =>
        refine ⟨k + 1, by omega, by go_num, ?_, hnw.row hown hkp1⟩
        rw [HT.out]
        simpa [enc_len] using hown1
      case measure => simp [intOf]; omega
    · go_wp2
      go_ret
      have e : l.take k = l := List.take_of_length_le (by omega)
      rw [e] at hown
      exact ⟨_, rfl, hown, hnw⟩

end Go.Proofs.YtjgnapjhlhdgfaaDoor
