/- Records: the reference's with. -/
import Derived.Test.YtjgnapjhlhdgfaaRz
set_option linter.unusedVariables false
set_option linter.unusedSimpArgs false
namespace Go.Proofs.Ytjgnapjhlhdgfaa
open Go.RowKit

theorem setN_cells (a : Rc) (f : Nat) (hf : f < 8) (n : Int) : a.cells.setIfInBounds (f + 1) (.int .i64 n) = (a.setN f n).cells := by
  have : f = 0 ∨ f = 1 ∨ f = 2 ∨ f = 3 ∨ f = 4 ∨ f = 5 ∨ f = 6 ∨ f = 7 := by omega
  rcases this with rfl | rfl | rfl | rfl | rfl | rfl | rfl | rfl <;> rfl
theorem cells_int (a : Rc) (f : Nat) (hf : f < 8) : ∃ x : Int, a.cells[f + 1]? = some (.int .i64 x) := by
  have : f = 0 ∨ f = 1 ∨ f = 2 ∨ f = 3 ∨ f = 4 ∨ f = 5 ∨ f = 6 ∨ f = 7 := by omega
  rcases this with rfl | rfl | rfl | rfl | rfl | rfl | rfl | rfl <;> exact ⟨_, rfl⟩
theorem cells_one (a : Rc) : a.cells.all (·.oneCell') = true := by simp [Rc.cells, Value.oneCell']

set_option maxRecDepth 100000 in
set_option maxHeartbeats 3200000 in
theorem refwith_any (a : Rc) (f : Nat) (hf : f < 8) (n : Int) (w : World) :
    Calls Try.prog 33 #[a.val, bv (let_ f), .int .i64 n] w fun e w' => e = .returned (a.setN f n).val ∧ Nw w w' := by
  have hb1 := heap_alloc2_old w (.cells a.cells 27) (.cells #[.int .i64 0, .int .i64 0, .int .i64 0, .int .i64 0, .int .i64 0, .int .i64 0, .int .i64 0, .int .i64 0, .int .i64 0, .slice none 0 0, .slice none 0 0] 27)
  have hb2 := heap_alloc2_new w (.cells a.cells 27) (.cells #[.int .i64 0, .int .i64 0, .int .i64 0, .int .i64 0, .int .i64 0, .int .i64 0, .int .i64 0, .int .i64 0, .int .i64 0, .slice none 0 0, .slice none 0 0] 27)
  have hnw : Nw w ((w.alloc (.cells a.cells 27)).alloc (.cells #[.int .i64 0, .int .i64 0, .int .i64 0, .int .i64 0, .int .i64 0, .int .i64 0, .int .i64 0, .int .i64 0, .int .i64 0, .slice none 0 0, .slice none 0 0] 27)) := ((Kp.refl _ w).alloc _).alloc _
  have hcs := setN_cells a f hf n
  obtain ⟨x0, hx0⟩ := cells_int a f hf
  have haz : Hid ((a.setN f n).cells.all (·.oneCell') = true) := by show _ = _; exact cells_one _
  have hiz : Hid ((Try.prog.info? 27).map (·.size) = some (a.setN f n).cells.size) := by show _ = _; kernel_rfl
  show Calls Try.prog 33 #[.agg a.cells, .int .u8 ((let_ f).toNat : Int), .int .i64 n] w _
  have HC : Hid (((w.alloc (.cells a.cells 27)).alloc (.cells #[.int .i64 0, .int .i64 0, .int .i64 0, .int .i64 0, .int .i64 0, .int .i64 0, .int .i64 0, .int .i64 0, .int .i64 0, .slice none 0 0, .slice none 0 0] 27)).cell? ⟨w.heap.size, f + 1, none⟩ = some (.int .i64 x0)) := by show _ = _; rw [cell_of_row _ w.heap.size (f + 1) _ _ _ hb1, hx0]
  have HFZ : ∀ k, ((w.alloc (.cells a.cells 27)).alloc (.cells #[.int .i64 0, .int .i64 0, .int .i64 0, .int .i64 0, .int .i64 0, .int .i64 0, .int .i64 0, .int .i64 0, .int .i64 0, .slice none 0 0, .slice none 0 0] 27)).frozen? ⟨w.heap.size, k, none⟩ = false := fun k => by simp [World.frozen?, hb1]
  have HFZ := HFZ (f + 1)
  have hset := heap_setCell_same _ w.heap.size (f + 1) _ _ (.int .i64 n) hb1
  have hks : Kp (fun g => g = w.heap.size) ((w.alloc (.cells a.cells 27)).alloc (.cells #[.int .i64 0, .int .i64 0, .int .i64 0, .int .i64 0, .int .i64 0, .int .i64 0, .int .i64 0, .int .i64 0, .int .i64 0, .slice none 0 0, .slice none 0 0] 27)) (((w.alloc (.cells a.cells 27)).alloc (.cells #[.int .i64 0, .int .i64 0, .int .i64 0, .int .i64 0, .int .i64 0, .int .i64 0, .int .i64 0, .int .i64 0, .int .i64 0, .slice none 0 0, .slice none 0 0] 27)).setCell ⟨w.heap.size, f + 1, none⟩ (.int .i64 n)) := (Kp.refl (fun g => g = w.heap.size) _).setCell (p := ⟨w.heap.size, f + 1, none⟩) (fun _ => rfl) _
  rw [hcs] at hset
  have hb2' := blk_kp hb2 hks (by omega)
  have HKS := Lib.hid (hks.trans (Kp.refl _ _) fun _ _ e => e)
  have HSET := Lib.hid hset
  have HB2 := Lib.hid hb2'
  have HNW := Lib.hid hnw
  clear hset hks hb2' hcs hx0 hnw hb1 hb2
  go_enter Try.func33, Try.ntmps33
  go_upto_region 1 with (fail)
  generalize (w.alloc (.cells a.cells 27)).alloc (.cells #[.int .i64 0, .int .i64 0, .int .i64 0, .int .i64 0, .int .i64 0, .int .i64 0, .int .i64 0, .int .i64 0, .int .i64 0, .slice none 0 0, .slice none 0 0] 27) = w2 at *
  have : f = 0 ∨ f = 1 ∨ f = 2 ∨ f = 3 ∨ f = 4 ∨ f = 5 ∨ f = 6 ∨ f = 7 := by omega
  rcases this with rfl | rfl | rfl | rfl | rfl | rfl | rfl | rfl
  all_goals
    have hc0 := HC.out
    show Code.wp _ _ _ { tmps := #[_, .int .u8 _, _, _, _, _, _, _, _, _, _, _, _, _, _, _, _, _, _, _, _, _, _, _, _, _, _, _, _, _, _, _, _, _, _, _, _, _, _, _, _, _, _], defers := [] } _
    go_upto_region 18 with (fail)
    have hset := HSET.out
    have hks := HKS.out
    have hnw3 : Nw w _ := HNW.out.trans hks fun g hg e => by omega
    have hb3 := HB2.out
    revert hset hks hnw3 hb3
    simp only [Nat.reduceAdd]
    generalize w2.setCell _ (.int .i64 n) = w3 at *
    intro hset hks hnw3 hb3
    obtain ⟨hr4, hk4⟩ := row_set (cs := (a.setN _ n).cells) hb3
    have hnw4 := hnw3.trans hk4 fun g hg e => by omega
    go_wp2_with (first | ((with_reducible refine opAt 42 ?_); go_loud (refine wpList_load_row rfl 27 _ rfl w.heap.size rfl _ _ _ _ hset Try.underlying27 rfl (by kernel_rfl) ?_)) | ((with_reducible refine stAt 27 (.tmp 6) (.tmp 42) ?_); go_loud (refine wpList_store_row rfl 27 (.tmp 6) (.tmp 42) rfl (w.heap.size + 1) _ rfl rfl 27 _ hb3 hiz.out (by rfl) haz.out ?_)))
    refine ⟨rfl, _, results_cell_row rfl _ _ (w.heap.size + 1) _ _ _ _ rfl hr4 Try.underlying27 rfl (by kernel_rfl), rfl, hnw4⟩

end Go.Proofs.Ytjgnapjhlhdgfaa
