/- Records: the program's Read. -/
import Derived.Test.YtjgnapjhlhdgfaaRw
set_option linter.unusedVariables false
set_option linter.unusedSimpArgs false
namespace Go.Proofs.Ytjgnapjhlhdgfaa
open Go.RowKit

/-- What a Read answers. -/
def ReadPost (w : World) (O : RSt × Int) (e : Ending) (w' : World) : Prop :=
  ∃ (S : Option Addr) (sc : Nat) (D : Option Addr) (dc : Nat), e = .returned (.tuple #[(O.1.a.at_ S sc D dc).val, .int .i64 O.2]) ∧ w'.ownsRow w.heap.size 47 2 (.slice S O.1.a.sn sc) O.1.a.sn (sps O.1.sp) ∧
    w'.ownsRow w.heap.size 5 1 (.slice D O.1.a.dn dc) O.1.a.dn (bys O.1.dt) ∧ Nw w w'
theorem zero_val : (zeroR.at_ none 0 none 0).val = .agg zeroC := rfl

theorem read_results (fr : Array Value) (b2 b3 : Nat) (C : Array Value) (x : Int) (w : World) (hC : C.size = 11)
    (ht2 : fr.getD 2 undef = .pointer (some ⟨b2, 0, none⟩)) (ht3 : fr.getD 3 undef = .pointer (some ⟨b3, 0, none⟩)) (h2 : w.heap[b2]? = some (.cells C 27 (0, 0))) (h3 : w.heap[b3]? = some (.cells #[.int .i64 x] 29 (0, 0))) :
    (results Try.f17 fr).run Try.prog w = .ok (.tuple #[.agg C, .int .i64 x]) w := by
  have hc3 : w.cell? ⟨b3, 0, none⟩ = some (.int .i64 x) := cell_of_row w b3 0 _ _ _ h3
  have hl := run_loadVar_row (P := Try.prog) w b2 27 27 C (0, 0) _ h2 Try.underlying27 rfl (by rw [hC]; kernel_rfl)
  have ht2' : fr[2]?.getD undef = .pointer (some ⟨b2, 0, none⟩) := by simpa using ht2
  have ht3' : fr[3]?.getD undef = .pointer (some ⟨b3, 0, none⟩) := by simpa using ht3
  have hl3 : (loadVar 29 ⟨b3, 0, none⟩).run Try.prog w = .ok (.int .i64 x) w := by simp [go_sem, hc3]
  simp [results, Try.results17, ht2', ht3', asAddr, hl, hl3]

theorem door_panic (fr : Array Value) (b2 b3 : Nat) (C : Array Value) (x : Int) (wx : World) (R : Ending → World → Prop) (h2 : wx.heap[b2]? = some (.cells C 27 (0, 0))) (hC : C.size = 11)
    (h3 : wx.heap[b3]? = some (.cells #[.int .i64 x] 29 (0, 0))) (hne : b2 ≠ b3)
    (ht2 : fr.getD 2 undef = .pointer (some ⟨b2, 0, none⟩)) (ht3 : fr.getD 3 undef = .pointer (some ⟨b3, 0, none⟩))
    (hK : ∀ w', Kp (fun g => g = b2 ∨ g = b3) wx w' → R (.returned (.tuple #[.agg zeroC, .int .i64 61])) w') :
    bodyPostD Try.prog Try.f17 R (Exit.panic [{ v := .iface 69 (.agg #[]), recovered := false }])
      { tmps := fr, defers := [{ target := .fn (.func 34) #[.pointer (some ⟨b2, 0, none⟩), .pointer (some ⟨b3, 0, none⟩)], args := #[] }] } wx := by
  show Leaves _ _ _ _ _ _ _
  refine leaves_cons (f := 34) (args := #[.pointer (some ⟨b2, 0, none⟩), .pointer (some ⟨b3, 0, none⟩)]) (by simp) (by simp [go_sem]) ?_
  refine (catch_brk b2 b3 C x wx h2 hC h3 hne).mono ?_
  rintro e u' w' ⟨rfl, rfl, hb2, hb3, hk⟩
  exact ⟨_, read_results fr b2 b3 zeroC 61 w' (by kernel_rfl) ht2 ht3 hb2 hb3, hK w' hk⟩

theorem door_ret (fr : Array Value) (b2 b3 : Nat) (C : Array Value) (x : Int) (wx : World) (R : Ending → World → Prop) (h2 : wx.heap[b2]? = some (.cells C 27 (0, 0))) (hC : C.size = 11)
    (h3 : wx.heap[b3]? = some (.cells #[.int .i64 x] 29 (0, 0)))
    (ht2 : fr.getD 2 undef = .pointer (some ⟨b2, 0, none⟩)) (ht3 : fr.getD 3 undef = .pointer (some ⟨b3, 0, none⟩))
    (hK : R (.returned (.tuple #[.agg C, .int .i64 x])) wx) :
    bodyPostD Try.prog Try.f17 R Exit.ret
      { tmps := fr, defers := [{ target := .fn (.func 34) #[.pointer (some ⟨b2, 0, none⟩), .pointer (some ⟨b3, 0, none⟩)], args := #[] }] } wx := by
  show Leaves _ _ _ _ _ _ _
  refine leaves_cons (f := 34) (args := #[.pointer (some ⟨b2, 0, none⟩), .pointer (some ⟨b3, 0, none⟩)]) (by simp) (by simp [go_sem]) ?_
  refine (catch_idle _ _ wx).mono ?_
  rintro e u' w' ⟨rfl, rfl, rfl⟩
  exact ⟨_, read_results fr b2 b3 C x w' hC ht2 ht3 h2 h3, hK⟩

theorem readPost_zero {w w' : World} (n : Int) (h : Nw w w') : ReadPost w (⟨zeroR, [], [], []⟩, n) (.returned (.tuple #[.agg zeroC, .int .i64 n])) w' :=
  ⟨none, 0, none, 0, rfl, World.ownsRow_nil _ _ _ _, World.ownsRow_nil _ _ _ _, h⟩

set_option maxRecDepth 100000 in
set_option maxHeartbeats 3200000 in
theorem read_long (A : Option Addr) (n c : Nat) (w : World) (hn : 131072 < n) : Calls Try.prog 17 #[.slice A n c] w (ReadPost w (⟨zeroR, [], [], []⟩, 2)) := by
  have h1 : (131072 : Int) < (n : Int) := by omega
  go_enter_defers Try.func17, Try.ntmps17
  go_wp2
  refine ⟨_, read_results _ w.heap.size (w.heap.size + 1) zeroC 2 _ (by kernel_rfl) rfl rfl ?_ ?_, readPost_zero 2 (((Kp.refl _ w).alloc _).alloc _)⟩
  · exact heap_alloc2_old _ _ _
  · exact heap_alloc2_new _ _ _

set_option maxRecDepth 100000 in
set_option maxHeartbeats 3200000 in
theorem read_empty (A : Option Addr) (c : Nat) (w : World) : Calls Try.prog 17 #[.slice A 0 c] w (ReadPost w (⟨zeroR, [], [], []⟩, 61)) := by
  have hmf : ∀ (fn : Fn) (first cap : Array Value) (w : World), (Instr.makeFunc fn first cap).run Try.prog w = .ok (.func fn first cap) w := fun _ _ _ _ => rfl
  go_enter_defers Try.func17, Try.ntmps17
  go_wp2
  refine door_panic _ w.heap.size (w.heap.size + 1) zeroC 0 _ _ (heap_alloc2_old _ _ _) (by kernel_rfl) (heap_alloc2_new _ _ _) (by omega) rfl rfl fun w' hk => readPost_zero 61 ?_
  exact (((Kp.refl _ w).alloc _).alloc _).trans hk fun i hi e => by omega

end Go.Proofs.Ytjgnapjhlhdgfaa
