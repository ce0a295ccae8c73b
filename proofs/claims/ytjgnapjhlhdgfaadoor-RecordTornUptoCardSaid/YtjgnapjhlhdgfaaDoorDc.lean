/- Frames: two rows of records. -/
import Derived.Test.YtjgnapjhlhdgfaaDoorQj
import Derived.Test.YtjgnapjhlhdgfaaDoorQgh
import Derived.StillTailTactics
set_option linter.unusedVariables false
set_option linter.unusedSimpArgs false
namespace Go.Proofs.YtjgnapjhlhdgfaaDoor
open Go.RowKit

theorem still_load_at {P : Program} {o : Oper} {a : Act} {w : World} {K : Act → Prop} (ty : TypeId) (x : Operand) (ho : o.op = .load ty x)
    (ad : Addr) (hx : a.eval x = .pointer (some ad)) (cs : Array Value) (d : TypeDesc) (hc : ∀ (j : Nat) (v : Value), cs[j]? = some v → w.cell? (ad.add j) = some v)
    (hu : P.underlying ty = some d) (hd : (match d with | .struct _ | .array _ _ => true | _ => false) = true) (hi : (P.info? ty).map (·.size) = some cs.size)
    (h : K (a.put o.dst (.agg cs))) : o.still P a w K := by
  unfold Oper.still execOp
  simp only [ho, hx, Instr.loadAt, Instr.sureAddr, Sem.run_bind, Sem.run_pure, Result.andThen_ok, run_loadVar_at w ad ty cs d hc hu hd hi]
  exact ⟨rfl, h⟩

set_option maxRecDepth 100000 in
set_option maxHeartbeats 6400000 in
theorem sameall_any (A A' : Option Addr) (N c c' : Nat) (ok ok' : Nat → Prop) (la lb : List Rc) (w : World) (hr : Rd w ok 11 A N (rcs la)) (hr' : Rd w ok' 11 A' N (rcs lb)) (hN : N ≤ 1000000000000)
    (hs : ∀ (i : Nat) (a b : Rc), la[i]? = some a → lb[i]? = some b → ∀ W, Nw w W → Calls Tryd.prog 30 #[.agg a.cells, .agg b.cells] W fun e w' => e = .returned (.bool true) ∧ Nw W w') :
    Calls Tryd.prog 16 #[.slice A N c, .slice A' N c'] w fun e w' => e = .returned (.bool true) ∧ Nw w w' := by
  have hl : la.length = N := by have := hr.1; rw [rcs_len] at this; omega
  have hl' : lb.length = N := by have := hr'.1; rw [rcs_len] at this; omega
  have HS := Lib.hid hs
  have HR := Lib.hid hr
  have HR' := Lib.hid hr'
  have HL := Lib.hid hl
  have HL' := Lib.hid hl'
  have hnn : ((N : Int) != (N : Int)) = false := by simp
  clear hs hr hr' hl hl'
  go_enter Tryd.func16, Tryd.ntmps16
  go_wp2_with fail
  go_loopw [5] (fun i wr => ∃ k : Nat, k ≤ N ∧ i = .int .i64 k ∧ Nw w wr) (fun i _ => N - (intOf i).toNat)
  case atStart => exact ⟨0, by omega, rfl, Kp.refl _ _⟩
  case round =>
    obtain ⟨k, hk, rfl, hnw⟩ := hrel
    by_cases hlt : k < N
    · obtain ⟨ad, rfl, _, hcs, _, _⟩ := (HR.out.nw hnw).rec_ (i := k) (by rw [HL.out]; exact hlt)
      obtain ⟨ad', rfl, _, hcs', _, _⟩ := (HR'.out.nw hnw).rec_ (i := k) (by rw [HL'.out]; exact hlt)
      have hi : la[k]? = some (la[k]'(by rw [HL.out]; exact hlt)) := List.getElem?_eq_getElem _
      have hi' : lb[k]? = some (lb[k]'(by rw [HL'.out]; exact hlt)) := List.getElem?_eq_getElem _
      have hsk := HS.out k _ _ hi hi'
      generalize (la[k]'(by rw [HL.out]; exact hlt)) = a at *
      generalize (lb[k]'(by rw [HL'.out]; exact hlt)) = b at *
      have HSK := Lib.hid hsk
      have HCS := Lib.hid hcs
      have HCS' := Lib.hid hcs'
      have h0 : (0 : Int) ≤ (k : Int) := by omega
      have h1 : (k : Int) < (N : Int) := by omega
      clear hsk hcs hcs' hi hi'
      go_upto_region 6 with (fail)
      refine wp_region_still_tail 8 (by kernel_rfl) (by kernel_rfl) ?_
      simp only [List.take_succ_cons, List.take_zero, List.drop_succ_cons, List.drop_zero]
      still_step
      still_step
      still_step
      refine wpStill_step (fun K hK => ?_)
      rw [if_pos (by rfl)]
      refine still_load_at 36 _ rfl (ad.add (k * 11)) rfl a.cells _ HCS.out Tryd.underlying36 rfl (by kernel_rfl) (hK _ ?_)
      clear hK K
      still_step
      still_step
      still_step
      refine wpStill_step (fun K hK => ?_)
      rw [if_pos (by rfl)]
      refine still_load_at 36 _ rfl (ad'.add (k * 11)) rfl b.cells _ HCS'.out Tryd.underlying36 rfl (by kernel_rfl) (hK _ ?_)
      clear hK K
      refine wpStill_nil ?_
      change wpList _ _ _ _ _ wr.drew
      have hd : Nw w wr.drew := hnw.drew
      generalize wr.drew = w3 at *
      go_wp2_with fail
      refine (HSK.out w3 hd).mono ?_
      rintro e w4 ⟨rfl, hn4⟩
      go_wp2_with fail
      go_roundw
      case rel => exact ⟨k + 1, by omega, by go_num, hd.nw hn4⟩
      case measure => simp [intOf]; omega
    · have hkN : k = N := by omega
      subst hkN
      have h1 : ¬ (k : Int) < (k : Int) := by omega
      go_wp2_with fail
      go_ret
      exact ⟨rfl, hnw⟩

end Go.Proofs.YtjgnapjhlhdgfaaDoor
