/- Records: the program's Read: the deferred closure. -/
import Derived.Test.YtjgnapjhlhdgfaaRv
import Derived.Defers
import Derived.Recover
import Derived.Laws.Tables
import Derived.Test.YtjgnapjhlhdgfaaRq
set_option linter.unusedVariables false
set_option linter.unusedSimpArgs false
namespace Go.Proofs.Ytjgnapjhlhdgfaa
open Go.RowKit

def zeroC : Array Value := #[.int .i64 0, .int .i64 0, .int .i64 0, .int .i64 0, .int .i64 0, .int .i64 0, .int .i64 0, .int .i64 0, .int .i64 0, .slice none 0 0, .slice none 0 0]

theorem row_set {w : World} {b t : Nat} {old cs : Array Value} (h : w.heap[b]? = some (.cells old t (0, 0))) : (w.setRow b cs).heap[b]? = some (.cells cs t (0, 0)) ∧ Kp (fun g => g = b) w (w.setRow b cs) :=
  ⟨setRow_heap w b old cs t _ h, ⟨rfl, rfl, rfl, by simp, fun k _ hk => setRow_other w b k _ hk⟩⟩
theorem stAt (t : TypeId) (x y : Operand) {P : Program} {ops : Array Oper} {rest : List Oper} {a : Act} {Q : Exit → Act → World → Prop} {w : World} {c d e f} (h : wpList P ops Q (Oper.mk none (.store t x y) c d e f :: rest) a w) :
    wpList P ops Q (Oper.mk none (.store t x y) c d e f :: rest) a w := h

set_option maxRecDepth 100000 in
set_option maxHeartbeats 3200000 in
theorem catch_brk (b2 b3 : Nat) (C : Array Value) (x : Int) (w : World) (h2 : w.heap[b2]? = some (.cells C 27 (0, 0))) (hC : C.size = 11) (h3 : w.heap[b3]? = some (.cells #[.int .i64 x] 29 (0, 0))) (hne : b2 ≠ b3) :
    CallsD Try.prog 34 #[.pointer (some ⟨b2, 0, none⟩), .pointer (some ⟨b3, 0, none⟩)] (.panicking [{ v := brkV, recovered := false }]) w fun e u' w' =>
      e = .returned (.tuple #[]) ∧ u' = .panicking [{ v := brkV, recovered := true }] ∧ w'.heap[b2]? = some (.cells zeroC 27 (0, 0)) ∧ w'.heap[b3]? = some (.cells #[.int .i64 61] 29 (0, 0)) ∧ Kp (fun g => g = b2 ∨ g = b3) w w' := by
  refine callsD_of_wpS Try.func34 rfl fun c₀ cs hu => ?_
  apply wpS_seq
  apply wpS_region
  unfold brkV at *
  simp [wpOpsS, go_sem, recoverD, hu, Try.ntmps34, Exit.thenS]
  refine wpS_of_wp ?_
  have hf3 : w.frozen? ⟨b3, 0, none⟩ = false := by simp [World.frozen?, h3]
  have hc3 : w.cell? ⟨b3, 0, none⟩ = some (.int .i64 x) := cell_of_row w b3 0 _ _ _ h3
  have hl2 := (Array.getElem?_eq_some_iff.1 h2).1
  have hl3 := (Array.getElem?_eq_some_iff.1 h3).1
  have efr : (#[Value.pointer (some ⟨b2, 0, none⟩), .pointer (some ⟨b3, 0, none⟩)] : Array Value) ++ ((Array.replicate 15 undef).setIfInBounds 3 (Value.iface 69 (.agg #[]))).setIfInBounds 0 (Value.iface 69 (.agg #[])) =
      #[.pointer (some ⟨b2, 0, none⟩), .pointer (some ⟨b3, 0, none⟩), .iface 69 (.agg #[]), undef, undef, .iface 69 (.agg #[]), undef, undef, undef, undef, undef, undef, undef, undef, undef, undef, undef] := rfl
  rw [efr]
  clear efr
  have hta : ∀ w : World, (Instr.typeAssert (.iface 69 (.agg #[])) 20 69 true).run Try.prog w = .ok (.tuple #[.agg #[], .bool true]) w := fun _ => by kernel_rfl
  have hcz : Hid (C.size = zeroC.size) := hC.trans (by kernel_rfl)
  have haz : Hid (zeroC.all (·.oneCell') = true) := by show _ = _; kernel_rfl
  have hiz : Hid ((Try.prog.info? 27).map (·.size) = some zeroC.size) := by show _ = _; kernel_rfl
  have hb2 : (w.alloc (.cells #[] 69)).heap[b2]? = some (.cells C 27 (0, 0)) := blk_nw h2 ((Kp.refl _ w).alloc _)
  go_wp2_with ((with_reducible refine stAt 27 (.tmp 0) (.tmp 16) ?_); go_loud (refine wpList_store_row rfl 27 (.tmp 0) (.tmp 16) rfl b2 zeroC rfl rfl 27 C hb2 hiz.out hcz.out haz.out ?_; obtain ⟨hr5, hk5⟩ := row_set (cs := zeroC) hb2; have h35 := blk_kp (blk_nw h3 ((Kp.refl _ w).alloc (.cells #[] 69))) hk5 (fun e => hne e.symm); generalize World.setRow (w.alloc (.cells #[] 69)) b2 zeroC = w5 at *; have hf5 : w5.frozen? ⟨b3, 0, none⟩ = false := (by simp [World.frozen?, h35]); have hc5 : w5.cell? ⟨b3, 0, none⟩ = some (.int .i64 x) := cell_of_row w5 b3 0 _ _ _ h35))
  have hset := heap_setCell_same w5 b3 0 _ _ (.int .i64 61) h35
  have hks : Kp (fun g => g = b3) w5 (w5.setCell ⟨b3, 0, none⟩ (.int .i64 61)) := (Kp.refl (fun g => g = b3) w5).setCell (p := ⟨b3, 0, none⟩) (fun _ => rfl) _
  have hr6 := blk_kp hr5 hks hne
  have hkk : Kp (fun g => g = b2 ∨ g = b3) w (w5.setCell ⟨b3, 0, none⟩ (.int .i64 61)) :=
    Kp.kp0 ((Kp.refl _ w).alloc (.cells #[] 69)) (Kp.trans (S := fun g => g = b2 ∨ g = b3) (hk5.mono fun k _ e => Or.inl e) (hks.mono (T := fun g => g = b2 ∨ g = b3) fun k _ e => Or.inr e) fun _ _ e => e)
  generalize w5.setCell ⟨b3, 0, none⟩ (.int .i64 61) = w6 at *
  have hs6 := hset
  clear hks hk5 hset
  simp [bodyPostS, results, Try.results34]
  exact ⟨hr6, hs6, hkk⟩

theorem catch_idle (p2 p3 : Value) (w : World) :
    CallsD Try.prog 34 #[p2, p3] .returning w fun e u' w' => e = .returned (.tuple #[]) ∧ u' = .returning ∧ w' = w := by
  refine callsD_of_wpS Try.func34 rfl fun c₀ cs hu => ?_
  apply wpS_seq
  apply wpS_region
  simp [wpOpsS, go_sem, recoverD, hu, Try.ntmps34, Exit.thenS]
  refine wpS_of_wp ?_
  have efr : (#[p2, p3] : Array Value) ++ ((Array.replicate 15 undef).setIfInBounds 3 Value.nilIface).setIfInBounds 0 Value.nilIface =
      #[p2, p3, .nilIface, undef, undef, .nilIface, undef, undef, undef, undef, undef, undef, undef, undef, undef, undef, undef] := rfl
  rw [efr]
  clear efr
  go_wp2
  cases c₀
  simp_all [bodyPostS, results, Try.results34]

end Go.Proofs.Ytjgnapjhlhdgfaa
