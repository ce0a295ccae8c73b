/- Records: the reference's with. Records: the reference's reader: bytes. Records: the reference's reader: spans. Records: the reference's Read: how it begins and ends. Records: the reference's Read: one field. -/
import Derived.Test.YtjgnapjhlhdgfaaDoorRz
import Derived.StillTailTactics
set_option linter.unusedVariables false
set_option linter.unusedSimpArgs false
namespace Go.Proofs.YtjgnapjhlhdgfaaDoor
open Go.RowKit

theorem setN_cells (a : Rc) (f : Nat) (hf : f < 8) (n : Int) : a.cells.setIfInBounds (f + 1) (.int .i64 n) = (a.setN f n).cells := by
  have : f = 0 ∨ f = 1 ∨ f = 2 ∨ f = 3 ∨ f = 4 ∨ f = 5 ∨ f = 6 ∨ f = 7 := by omega
  rcases this with rfl | rfl | rfl | rfl | rfl | rfl | rfl | rfl <;> rfl
theorem cells_int (a : Rc) (f : Nat) (hf : f < 8) : ∃ x : Int, a.cells[f + 1]? = some (.int .i64 x) := by
  have : f = 0 ∨ f = 1 ∨ f = 2 ∨ f = 3 ∨ f = 4 ∨ f = 5 ∨ f = 6 ∨ f = 7 := by omega
  rcases this with rfl | rfl | rfl | rfl | rfl | rfl | rfl | rfl <;> exact ⟨_, rfl⟩
theorem cells_one (a : Rc) : a.cells.all (·.oneCell') = true := by simp [Rc.cells, Value.oneCell']

set_option maxRecDepth 100000 in
set_option maxHeartbeats 3200000 in
theorem refwith_any (a : Rc) (f : Nat) (hf : f < 8) (n : Int) (w : World) :
    Calls Tryd.prog 73 #[a.val, bv (let_ f), .int .i64 n] w fun e w' => e = .returned (a.setN f n).val ∧ Nw w w' := by
  have hb1 := heap_alloc2_old w (.cells a.cells 36) (.cells #[.int .i64 0, .int .i64 0, .int .i64 0, .int .i64 0, .int .i64 0, .int .i64 0, .int .i64 0, .int .i64 0, .int .i64 0, .slice none 0 0, .slice none 0 0] 36)
  have hb2 := heap_alloc2_new w (.cells a.cells 36) (.cells #[.int .i64 0, .int .i64 0, .int .i64 0, .int .i64 0, .int .i64 0, .int .i64 0, .int .i64 0, .int .i64 0, .int .i64 0, .slice none 0 0, .slice none 0 0] 36)
  have hnw : Nw w ((w.alloc (.cells a.cells 36)).alloc (.cells #[.int .i64 0, .int .i64 0, .int .i64 0, .int .i64 0, .int .i64 0, .int .i64 0, .int .i64 0, .int .i64 0, .int .i64 0, .slice none 0 0, .slice none 0 0] 36)) := ((Kp.refl _ w).alloc _).alloc _
  have hcs := setN_cells a f hf n
  obtain ⟨x0, hx0⟩ := cells_int a f hf
  have haz : Hid ((a.setN f n).cells.all (·.oneCell') = true) := by show _ = _; exact cells_one _
  have hiz : Hid ((Tryd.prog.info? 36).map (·.size) = some (a.setN f n).cells.size) := by show _ = _; kernel_rfl
  show Calls Tryd.prog 73 #[.agg a.cells, .int .u8 ((let_ f).toNat : Int), .int .i64 n] w _
  have HC : Hid (((w.alloc (.cells a.cells 36)).alloc (.cells #[.int .i64 0, .int .i64 0, .int .i64 0, .int .i64 0, .int .i64 0, .int .i64 0, .int .i64 0, .int .i64 0, .int .i64 0, .slice none 0 0, .slice none 0 0] 36)).cell? ⟨w.heap.size, f + 1, none⟩ = some (.int .i64 x0)) := by show _ = _; rw [cell_of_row _ w.heap.size (f + 1) _ _ _ hb1, hx0]
  have HFZ : ∀ k, ((w.alloc (.cells a.cells 36)).alloc (.cells #[.int .i64 0, .int .i64 0, .int .i64 0, .int .i64 0, .int .i64 0, .int .i64 0, .int .i64 0, .int .i64 0, .int .i64 0, .slice none 0 0, .slice none 0 0] 36)).frozen? ⟨w.heap.size, k, none⟩ = false := fun k => by simp [World.frozen?, hb1]
  have HFZ := HFZ (f + 1)
  have hset := heap_setCell_same _ w.heap.size (f + 1) _ _ (.int .i64 n) hb1
  have hks : Kp (fun g => g = w.heap.size) ((w.alloc (.cells a.cells 36)).alloc (.cells #[.int .i64 0, .int .i64 0, .int .i64 0, .int .i64 0, .int .i64 0, .int .i64 0, .int .i64 0, .int .i64 0, .int .i64 0, .slice none 0 0, .slice none 0 0] 36)) (((w.alloc (.cells a.cells 36)).alloc (.cells #[.int .i64 0, .int .i64 0, .int .i64 0, .int .i64 0, .int .i64 0, .int .i64 0, .int .i64 0, .int .i64 0, .int .i64 0, .slice none 0 0, .slice none 0 0] 36)).setCell ⟨w.heap.size, f + 1, none⟩ (.int .i64 n)) := (Kp.refl (fun g => g = w.heap.size) _).setCell (p := ⟨w.heap.size, f + 1, none⟩) (fun _ => rfl) _
  rw [hcs] at hset
  have hb2' := blk_kp hb2 hks (by omega)
  have HKS := Lib.hid (hks.trans (Kp.refl _ _) fun _ _ e => e)
  have HSET := Lib.hid hset
  have HB2 := Lib.hid hb2'
  have HNW := Lib.hid hnw
  clear hset hks hb2' hcs hx0 hnw hb1 hb2
  go_enter Tryd.func73, Tryd.ntmps73
  go_upto_region 1 with (fail)
  generalize (w.alloc (.cells a.cells 36)).alloc (.cells #[.int .i64 0, .int .i64 0, .int .i64 0, .int .i64 0, .int .i64 0, .int .i64 0, .int .i64 0, .int .i64 0, .int .i64 0, .slice none 0 0, .slice none 0 0] 36) = w2 at *
  have : f = 0 ∨ f = 1 ∨ f = 2 ∨ f = 3 ∨ f = 4 ∨ f = 5 ∨ f = 6 ∨ f = 7 := by omega
  rcases this with rfl | rfl | rfl | rfl | rfl | rfl | rfl | rfl
  all_goals
    have hc0 := HC.out
    show Code.wp _ _ _ { tmps := #[_, .int .u8 _, _, _, _, _, _, _, _, _, _, _, _, _, _, _, _, _, _, _, _, _, _, _, _, _, _, _, _, _, _, _, _, _, _, _, _, _, _, _, _, _, _], defers := [] } _
    go_upto_region 18 with (fail)
    have hset := HSET.out
    have hks := HKS.out
    have hnw3 : Nw w _ := HNW.out.trans hks fun g hg e => by omega
    have hb3 := HB2.out
    revert hset hks hnw3 hb3
    simp only [Nat.reduceAdd]
    generalize w2.setCell _ (.int .i64 n) = w3 at *
    intro hset hks hnw3 hb3
    obtain ⟨hr4, hk4⟩ := row_set (cs := (a.setN _ n).cells) hb3
    have hnw4 := hnw3.trans hk4 fun g hg e => by omega
    go_wp2_with (first | ((with_reducible refine opAt 42 ?_); go_loud (refine wpList_load_row rfl 36 _ rfl w.heap.size rfl _ _ _ _ hset Tryd.underlying36 rfl (by kernel_rfl) ?_)) | ((with_reducible refine stAt 36 (.tmp 6) (.tmp 42) ?_); go_loud (refine wpList_store_row rfl 36 (.tmp 6) (.tmp 42) rfl (w.heap.size + 1) _ rfl rfl 36 _ hb3 hiz.out (by rfl) haz.out ?_)))
    refine ⟨rfl, _, results_cell_row rfl _ _ (w.heap.size + 1) _ _ _ _ rfl hr4 Tryd.underlying36 rfl (by kernel_rfl), rfl, hnw4⟩

end Go.Proofs.YtjgnapjhlhdgfaaDoor

namespace Go.Proofs.YtjgnapjhlhdgfaaDoor
open Go.RowKit

/-- What comes of reading bytes. -/
def BytPost (w : World) (rb : Nat) (A : Option Addr) (c : Nat) (ok : Nat → Prop) (xs : List UInt8) (at_ : Nat) (e : Ending) (w' : World) : Prop :=
  ((∃ (m k : Nat) (v : Value), rdN (xs.drop at_) = some (m, k) ∧ m ≤ ((xs.drop at_).drop k).length ∧ e = .returned v ∧ w'.ownsRow w.heap.size 5 1 v m (bys (((xs.drop at_).drop k).take m)) ∧ Rdr w' rb A c ok xs (at_ + k + m) false) ∨
    ((∀ m k, rdN (xs.drop at_) = some (m, k) → ((xs.drop at_).drop k).length < m) ∧ e = .returned (.slice none 0 0) ∧ ∃ j, Rdr w' rb A c ok xs j true)) ∧ Kp (fun g => g = rb) w w'

set_option maxRecDepth 100000 in
set_option maxHeartbeats 3200000 in
theorem refbytes_idle (rb : Nat) (A : Option Addr) (c : Nat) (ok : Nat → Prop) (xs : List UInt8) (at_ : Nat) (w : World) (h : Rdr w rb A c ok xs at_ true) :
    Calls Tryd.prog 70 #[.pointer (some ⟨rb, 0, none⟩)] w fun e w' => e = .returned (.slice none 0 0) ∧ Rdr w' rb A c ok xs at_ true ∧ Kp (fun g => g = rb) w w' := by
  obtain ⟨hc0, hc1, hc2, hfz⟩ := h.cell
  have hfz2 := hfz 2
  have HI := Lib.hid (refget_idle rb A c ok xs at_ w h)
  have HS := Lib.hid h.spoil
  clear h hfz
  go_enter Tryd.func70, Tryd.ntmps70
  go_wp2_with fail
  refine HI.out.mono ?_
  rintro e w1 ⟨rfl, rfl⟩
  go_wp2_with fail
  go_big_quiet (fail)
  go_wp2_with fail
  go_ret
  exact ⟨rfl, HS.out.1.drewN _, Kp.drewN HS.out.2 _⟩

set_option maxRecDepth 100000 in
set_option maxHeartbeats 6400000 in
theorem refbytes_any (rb : Nat) (A : Option Addr) (c : Nat) (ok : Nat → Prop) (xs : List UInt8) (at_ : Nat) (w : World) (h : Rdr w rb A c ok xs at_ false) :
    Calls Tryd.prog 70 #[.pointer (some ⟨rb, 0, none⟩)] w (BytPost w rb A c ok xs at_) := by
  have HG := Lib.hid (refget_any rb A c ok xs at_ w h)
  have eb := Tryd.elU8
  have HNIL := Lib.hid (fun W : World => show W.ownsRow W.heap.size 5 1 (.slice none 0 0) 0 (bys []) from World.ownsRow_nil _ _ _ _)
  have hlt := h.lt
  clear h
  go_enter Tryd.func70, Tryd.ntmps70
  go_wp2_with fail
  refine HG.out.mono ?_
  rintro e w1 ⟨⟨m, k, hrd, rfl, hR⟩ | ⟨hrd, rfl, j, hR⟩, hk1⟩
  · obtain ⟨p, hp⟩ : ∃ p, p = at_ + k := ⟨_, rfl⟩
    rw [← hp] at hR
    obtain ⟨hc0, hc1, hc2, hfz⟩ := hR.cell
    have hfz1 := hfz 1
    have hfz2 := hfz 2
    obtain ⟨hN, hk0, hk9, _, hm62⟩ := rdN_some hrd
    have hkx := hR.hk
    have hle : Hid (((xs.drop at_).drop k).length = xs.length - p) := by show _ = _; rw [List.drop_drop, List.length_drop, ← hp]
    have hdd : Hid ((xs.drop at_).drop k = xs.drop p) := by show _ = _; rw [List.drop_drop, ← hp]
    have hHN := hR.hn
    have hHC := hR.hc
    have HK1 := Lib.hid hk1
    have HSP := Lib.hid hR.spoil
    have HR := Lib.hid hR
    have HRD := Lib.hid hrd
    have HP := Lib.hid hp
    have hsz := hk1.size
    clear hfz hN hk0 hk9 hrd hk1 hR hp
    by_cases hm : m ≤ xs.length - p
    · have hd2 : ¬ (xs.length : Int) - (p : Int) < (m : Int) := by omega
      have hcut := HR.out.rd.cut1 (k := p) (cap := c) hkx hHC
      rw [← bys_drop] at hcut
      have htk := hcut.take hm
      rw [Nat.mul_one, ← bys_take] at htk
      have HTK := Lib.hid htk
      have hb1 : (p : Int) + (m : Int) ≤ (c : Int) := by omega
      have hb2 : (p : Int) ≤ (p : Int) + (m : Int) := by omega
      have hb3 : (0 : Int) ≤ (p : Int) := by omega
      clear hcut htk
      have hd1 : decide ((xs.length : Int) - (p : Int) < (m : Int)) = false := by simp; omega
      have hwr : IntKind.i64.wrap ((p : Int) + (m : Int)) = (p : Int) + (m : Int) := by
        unfold IntKind.wrap
        simp [IntKind.bits, IntKind.signed]
        omega
      by_cases hcp : c = p
      · rw [if_pos hcp] at HTK
        have hm0 : m = 0 := by omega
        subst hm0
        subst hcp
        have hwr0 : IntKind.i64.wrap (c : Int) = (c : Int) := by
          unfold IntKind.wrap
          simp [IntKind.bits, IntKind.signed]
          omega
        go_wp2_with fail
        go_big_quiet (fail)
        go_upto_region 6 with (fail)
        have HR2 := Lib.hid (HR.out.drewN nq)
        have HT2 := Lib.hid (HTK.out.drewN nq)
        have HK2 := Lib.hid (HK1.out.drewN nq)
        generalize w1.drewN nq = w2 at *
        have q0 := HR2.out.cell.1
        have q1 := HR2.out.cell.2.1
        have q3 := HR2.out.cell.2.2.2 1
        clear hc0 hc1 hc2 hfz1 hfz2
        go_still_tail 16, (by kernel_rfl)
        change wpList _ _ _ _ _ w2.drew
        have HR3 := Lib.hid (show Rdr w2.drew rb A c ok xs c false from HR2.out.drewN 1)
        have HT3 := Lib.hid (show Rd w2.drew ok 1 _ 0 _ from HT2.out.drewN 1)
        have HK3 := Lib.hid (show Kp (fun g => g = rb) w w2.drew from HK2.out.drewN 1)
        have hsz2 := HK2.out.size
        have hsz3 : w2.drew.heap.size = w2.heap.size := rfl
        generalize w2.drew = w3 at *
        go_wp2_with (at_builtin; refine wpList_appv _ rfl (.tmp 28) (.tmp 43) 22 5 rfl eb w3.heap.size _ _ _ (HNIL.out w3) rfl _ _ _ _ _ HT3.out rfl (bys_one _) (by simp only [maxLen]; omega) (by omega) (Nat.le_refl _) ?_; intro v4 w4 ho4 hk4 ha4; have hnw4 := Kp.nil_nw hk4; have HR4 := Lib.hid (HR3.out.nw hnw4); have q0 := HR4.out.cell.1; have q1 := HR4.out.cell.2.1; have q3 := HR4.out.cell.2.2.2 1)
        have hat := HR4.out.at_ (j := c + 0) (by omega)
        rw [Nat.zero_add] at ho4
        go_ret
        refine ⟨.inl ⟨0, k, v4, HRD.out, by rw [hle.out]; omega, rfl, ?_, ?_⟩, ?_⟩
        · rw [hdd.out]
          have ho5 := own_kp ho4 hat.2 (fun g hg e => by have := own_ge ho4 hg; omega)
          exact own_base ho5 (fun g hg => by have := own_ge ho5 hg; omega)
        · rw [← HP.out]
          exact hat.1
        · exact ((HK3.out.nw hnw4).trans hat.2 fun _ _ e => e)
      · rw [if_neg hcp] at HTK
        have hb4 : ¬ (c : Int) = (p : Int) := by omega
        go_wp2_with fail
        go_big_quiet (fail)
        go_upto_region 6 with (fail)
        have HR2 := Lib.hid (HR.out.drewN nq)
        have HT2 := Lib.hid (HTK.out.drewN nq)
        have HK2 := Lib.hid (HK1.out.drewN nq)
        generalize w1.drewN nq = w2 at *
        have q0 := HR2.out.cell.1
        have q1 := HR2.out.cell.2.1
        have q3 := HR2.out.cell.2.2.2 1
        clear hc0 hc1 hc2 hfz1 hfz2
        go_still_tail 16, (by kernel_rfl)
        change wpList _ _ _ _ _ w2.drew
        have HR3 := Lib.hid (show Rdr w2.drew rb A c ok xs p false from HR2.out.drewN 1)
        have HT3 := Lib.hid (show Rd w2.drew ok 1 _ m _ from HT2.out.drewN 1)
        have HK3 := Lib.hid (show Kp (fun g => g = rb) w w2.drew from HK2.out.drewN 1)
        have hsz2 := HK2.out.size
        have hsz3 : w2.drew.heap.size = w2.heap.size := rfl
        rw [show ((p : Int) + (m : Int)).toNat - p = m from by omega]
        generalize w2.drew = w3 at *
        go_wp2_with (at_builtin; refine wpList_appv _ rfl (.tmp 28) (.tmp 43) 22 5 rfl eb w3.heap.size _ _ _ (HNIL.out w3) rfl _ _ _ _ _ HT3.out rfl (bys_one _) (by simp only [maxLen]; omega) (by omega) (Nat.le_refl _) ?_; intro v4 w4 ho4 hk4 ha4; have hnw4 := Kp.nil_nw hk4; have HR4 := Lib.hid (HR3.out.nw hnw4); have q0 := HR4.out.cell.1; have q1 := HR4.out.cell.2.1; have q3 := HR4.out.cell.2.2.2 1)
        have hat := HR4.out.at_ (j := p + m) (by omega)
        rw [Nat.zero_add] at ho4
        go_ret
        refine ⟨.inl ⟨m, k, v4, HRD.out, by rw [hle.out]; omega, rfl, ?_, ?_⟩, ?_⟩
        · rw [hdd.out]
          have ho5 := own_kp ho4 hat.2 (fun g hg e => by have := own_ge ho4 hg; omega)
          exact own_base ho5 (fun g hg => by have := own_ge ho5 hg; omega)
        · rw [← HP.out]
          exact hat.1
        · exact ((HK3.out.nw hnw4).trans hat.2 fun _ _ e => e)
    · have hd1 : decide ((xs.length : Int) - (p : Int) < (m : Int)) = true := by simp; omega
      have hd2 : (xs.length : Int) - (p : Int) < (m : Int) := by omega
      go_wp2_with fail
      go_big_quiet (fail)
      go_wp2_with fail
      go_ret
      exact ⟨.inr ⟨fun m' k' e => by
        rw [HRD.out] at e
        simp only [Option.some.injEq, Prod.mk.injEq] at e
        rw [← e.1, ← e.2, hle.out]
        omega, rfl, _, HSP.out.1.drewN _⟩, HK1.out.trans (Kp.drewN HSP.out.2 _) fun _ _ e => e⟩
  · obtain ⟨hc0, hc1, hc2, hfz⟩ := hR.cell
    have hfz2 := hfz 2
    have HSP := Lib.hid hR.spoil
    have HK1 := Lib.hid hk1
    have HRD := Lib.hid hrd
    clear hfz hR hk1 hrd
    go_wp2_with fail
    go_big_quiet (fail)
    go_wp2_with fail
    go_ret
    exact ⟨.inr ⟨(fun m k e => by rw [HRD.out] at e; cases e), rfl, _, HSP.out.1.drewN _⟩, HK1.out.trans (Kp.drewN HSP.out.2 _) fun _ _ e => e⟩

end Go.Proofs.YtjgnapjhlhdgfaaDoor

namespace Go.Proofs.YtjgnapjhlhdgfaaDoor
open Go.RowKit

/-- No list of spans comes of it that is in order. -/
def SpBad (R : Option (List (Int × Int) × List UInt8)) : Prop := ∀ l r, R = some (l, r) → ∃ s ∈ l, (4611686018427387903 : Int) < s.2
theorem SpBad.none : SpBad none := fun l r h => by cases h
theorem SpInv.over {m q : Nat} {pre : List (Int × Int)} {zs : List UInt8} {R : Option (List (Int × Int) × List UInt8)} {s : Int × Int} (h : SpInv m q (pre ++ [s]) zs R) (hs : (4611686018427387903 : Int) < s.2) : SpBad R := by
  intro l r e
  unfold SpInv at h
  rw [e] at h
  cases hx : rdP (m - q) zs with
  | none => rw [hx] at h; cases h
  | some p =>
    rw [hx] at h
    simp only [Option.map_some, Option.some.injEq, Prod.mk.injEq] at h
    exact ⟨s, by rw [← h.1]; simp, hs⟩
/-- What comes of reading spans. -/
def SpaPost (w : World) (rb : Nat) (A : Option Addr) (c : Nat) (ok : Nat → Prop) (xs : List UInt8) (at_ : Nat) (e : Ending) (w' : World) : Prop :=
  ((∃ (m k : Nat) (l : List (Int × Int)) (p : Nat) (v : Value), rdN (xs.drop at_) = some (m, k) ∧ rdP m ((xs.drop at_).drop k) = some (l, xs.drop p) ∧ e = .returned v ∧ w'.ownsRow w.heap.size 56 2 v l.length (sps l) ∧ l.length ≤ 131080 ∧
      Rdr w' rb A c ok xs p false) ∨
    ((∀ m k, rdN (xs.drop at_) = some (m, k) → SpBad (rdP m ((xs.drop at_).drop k))) ∧ ∃ (l : List (Int × Int)) (v : Value) (j : Nat), e = .returned v ∧ w'.ownsRow w.heap.size 56 2 v l.length (sps l) ∧ l.length ≤ 131080 ∧
      Rdr w' rb A c ok xs j true)) ∧ Kp (fun g => g = rb) w w'

set_option maxRecDepth 100000 in
set_option maxHeartbeats 3200000 in
theorem refspans_idle (rb : Nat) (A : Option Addr) (c : Nat) (ok : Nat → Prop) (xs : List UInt8) (at_ : Nat) (w : World) (h : Rdr w rb A c ok xs at_ true) :
    Calls Tryd.prog 71 #[.pointer (some ⟨rb, 0, none⟩)] w fun e w' => e = .returned (.slice none 0 0) ∧ w = w' := by
  obtain ⟨hc0, hc1, hc2, hfz⟩ := h.cell
  have HI := Lib.hid (refget_idle rb A c ok xs at_ w h)
  clear h hfz
  go_enter Tryd.func71, Tryd.ntmps71
  go_wp2_with fail
  refine HI.out.mono ?_
  rintro e w1 ⟨rfl, rfl⟩
  go_wp2_with fail
  go_loopw [4, 5] (fun x4 x5 wr => x4 = .slice none 0 0 ∧ x5 = .int .i64 0 ∧ w = wr) (fun _ _ _ => 0)
  case atStart => exact ⟨rfl, rfl, rfl⟩
  case round =>
    obtain ⟨rfl, rfl, rfl⟩ := hrel
    go_wp2_with fail
    go_ret
    exact ⟨rfl, rfl⟩

/-- What is known ahead of a round. -/
structure SpaInv (w1 wr : World) (rb : Nat) (A : Option Addr) (c : Nat) (ok : Nat → Prop) (xs : List UInt8) (m : Nat) (R : Option (List (Int × Int) × List UInt8)) (i : Nat) (v : Value) (pre : List (Int × Int)) (p : Nat) (bad : Bool) : Prop where
  len : pre.length = i
  le : i ≤ 131080
  own : wr.ownsRow w1.heap.size 56 2 v i (sps pre)
  rdr : Rdr wr rb A c ok xs p bad
  kp : Kp (fun g => g = rb) w1 wr
  yes : bad = false → i ≤ m ∧ i ≤ p ∧ SpInv m i pre (xs.drop p) R
  no : bad = true → SpBad R

set_option maxRecDepth 100000 in
set_option maxHeartbeats 6400000 in
theorem refspans_any (rb : Nat) (A : Option Addr) (c : Nat) (ok : Nat → Prop) (xs : List UInt8) (at_ : Nat) (w : World) (h : Rdr w rb A c ok xs at_ false) (hok : ∀ g, ok g → g < w.heap.size) :
    Calls Tryd.prog 71 #[.pointer (some ⟨rb, 0, none⟩)] w (SpaPost w rb A c ok xs at_) := by
  have HG := Lib.hid (refget_any rb A c ok xs at_ w h)
  have es := Tryd.elSp
  have hlt := h.lt
  have hHN := h.hn
  clear h
  go_enter Tryd.func71, Tryd.ntmps71
  go_wp2_with fail
  refine HG.out.mono ?_
  rintro e w1 ⟨⟨m, k, hrd, rfl, hR⟩ | ⟨hrd, rfl, j, hR⟩, hk1⟩
  · have HRD := Lib.hid hrd
    have hsz1 := hk1.size
    have HK1 := Lib.hid hk1
    obtain ⟨R, hRe⟩ : ∃ R, R = rdP m ((xs.drop at_).drop k) := ⟨_, rfl⟩
    have hI : Hid (∃ pre p bad, SpaInv w1 w1 rb A c ok xs m R 0 (.slice none 0 0) pre p bad) := ⟨[], at_ + k, false, rfl, by omega, World.ownsRow_nil _ _ _ _, hR, Kp.refl _ _, fun _ => ⟨by omega, by omega, by
      unfold SpInv
      rw [hRe, List.drop_drop, Nat.sub_zero]
      cases rdP m (xs.drop (at_ + k)) <;> simp⟩, fun h => by cases h⟩
    have hm62 := (rdN_some hrd).2.2.2.2
    have HRE := Lib.hid hRe
    clear hrd hk1 hRe hR
    go_wp2_with fail
    go_loopw [4, 5] (fun v i wr => ∃ q : Nat, q ≤ 131080 ∧ i = .int .i64 q ∧ Hid (∃ pre p bad, SpaInv w1 wr rb A c ok xs m R q v pre p bad)) (fun _ i _ => 131081 - (intOf i).toNat)
    case atStart => exact ⟨0, by omega, rfl, hI⟩
    case round =>
      obtain ⟨q, hq, rfl, hinv⟩ := hrel
      obtain ⟨pre, p, bad, hi⟩ := hinv.out
      have HI := Lib.hid hi
      have hc2 := hi.rdr.cell.2.2.1
      have hszr := hi.kp.size
      clear hi hinv hI
      cases bad with
      | true =>
        by_cases hlq : q < m
        · have h1 : (q : Int) < (m : Int) := by omega
          go_wp2_with fail
          go_ret
          exact ⟨.inr ⟨fun m' k' e => by
            rw [HRD.out] at e
            simp only [Option.some.injEq, Prod.mk.injEq] at e
            rw [← e.1, ← e.2, ← HRE.out]
            exact HI.out.no rfl, pre, _, p, rfl, by rw [HI.out.len]; exact own_base HI.out.own (fun g hg => by have := own_ge HI.out.own hg; omega), by rw [HI.out.len]; exact hq, HI.out.rdr⟩, HK1.out.trans HI.out.kp fun _ _ e => e⟩
        · have h1 : ¬ (q : Int) < (m : Int) := by omega
          go_wp2_with fail
          go_ret
          exact ⟨.inr ⟨fun m' k' e => by
            rw [HRD.out] at e
            simp only [Option.some.injEq, Prod.mk.injEq] at e
            rw [← e.1, ← e.2, ← HRE.out]
            exact HI.out.no rfl, pre, _, p, rfl, by rw [HI.out.len]; exact own_base HI.out.own (fun g hg => by have := own_ge HI.out.own hg; omega), by rw [HI.out.len]; exact hq, HI.out.rdr⟩, HK1.out.trans HI.out.kp fun _ _ e => e⟩
      | false =>
        obtain ⟨hqm, hqp, hsp⟩ := HI.out.yes rfl
        have HSI := Lib.hid hsp
        clear hsp
        by_cases hlq : q < m
        · have h1 : (q : Int) < (m : Int) := by omega
          have HG1 := Lib.hid (refget_any rb A c ok xs p wr HI.out.rdr)
          go_wp2_with fail
          refine HG1.out.mono ?_
          rintro e w3 ⟨⟨f, k1, hn1, rfl, hR3⟩ | ⟨hn1, rfl, j3, hR3⟩, hk3⟩
          · have hk1' := (rdN_some hn1).2.1
            have hf62 := (rdN_some hn1).2.2.2.2
            have HN1 := Lib.hid hn1
            have HG2 := Lib.hid (refget_any rb A c ok xs (p + k1) w3 hR3)
            clear hn1
            go_wp2_with fail
            refine HG2.out.mono ?_
            rintro e w4 ⟨⟨n, k2, hn2, rfl, hR4⟩ | ⟨hn2, rfl, j4, hR4⟩, hk4⟩
            · have hk2' := (rdN_some hn2).2.1
              have hn62 := (rdN_some hn2).2.2.2.2
              have hst := HSI.out.step hlq HN1.out (by rw [List.drop_drop]; exact hn2)
              have HST := Lib.hid hst
              have hk34 := hk3.trans hk4 fun _ _ e => e
              have hR4k := hR4.hk
              clear hn2 hst
              by_cases hov : n > 4611686018427387903 - f
              · have h2 : (4611686018427387903 : Int) - (f : Int) < (n : Int) := by omega
                have hbad := HST.out.over (by show _ < (f : Int) + (n : Int); omega)
                have HBAD := Lib.hid hbad
                have hspo := hR4.spoil
                have hfz := hR4.cell.2.2.2 2
                have hcc := hR4.cell.2.2.1
                have hks := hk34.trans hspo.2 fun _ _ e => e
                clear hbad
                go_upto_region 10 with (fail)
                generalize w4.setCell ⟨rb, 2, none⟩ (.bool true) = w5 at *
                have hov4 := own_kp HI.out.own hks (fun g hg e => by have := own_ge HI.out.own hg; omega)
                have hsz4 := hks.size
                have hspc := hspo.1
                go_wp2_with (at_builtin; go_loud (refine wpList_app1 w5 _ _ rfl (.tmp 33) (.tmp 39) 34 56 rfl es w1.heap.size _ _ _ hov4 rfl 1 1 rfl rfl (by simp [Value.oneCell']) (by simp only [maxLen]; omega) (by omega) (by omega) ?_; intro v7 w7 ho7 hk7 ha7))
                have hr7 : Hid (∃ pre p bad, SpaInv w1 w7 rb A c ok xs m R (q + 1) v7 pre p bad) :=
                  ⟨pre ++ [((f : Int), (f : Int) + (n : Int))], _, true, by rw [List.length_append, HI.out.len]; rfl, by have := HI.out.rdr.hk; omega, by rw [sps_app]; exact ho7, hspo.1.kp hk7 (fun e => by have := own_ge hov4 e; omega) (fun g hg e => by have := own_ge hov4 e; have := hok g hg; omega),
                    (HI.out.kp.trans hks fun _ _ e => e).trans hk7 (fun i hi e => by have := own_ge hov4 e; omega), (fun h => by cases h), fun _ => HBAD.out⟩
                clear hov4 ho7 hk7 ha7
                go_roundw
                case rel => exact ⟨q + 1, by have := HI.out.rdr.hk; omega, by go_num, hr7⟩
                case measure => simp [intOf]; omega
              · have h2 : ¬ (4611686018427387903 : Int) - (f : Int) < (n : Int) := by omega
                have hov4 := own_kp HI.out.own hk34 (fun g hg e => by have := own_ge HI.out.own hg; omega)
                have hsz4 := hk34.size

                go_wp2_with (at_builtin; go_loud (refine wpList_app1 w4 _ _ rfl (.tmp 33) (.tmp 39) 34 56 rfl es w1.heap.size _ _ _ hov4 rfl 1 1 rfl rfl (by simp [Value.oneCell']) (by simp only [maxLen]; omega) (by omega) (by omega) ?_; intro v7 w7 ho7 hk7 ha7))
                have hr7 : Hid (∃ pre p bad, SpaInv w1 w7 rb A c ok xs m R (q + 1) v7 pre p bad) :=
                  ⟨pre ++ [((f : Int), (f : Int) + (n : Int))], p + k1 + k2, false, by rw [List.length_append, HI.out.len]; rfl, by have := HI.out.rdr.hk; omega, by rw [sps_app]; exact ho7, hR4.kp hk7 (fun e => by have := own_ge hov4 e; omega) (fun g hg e => by have := own_ge hov4 e; have := hok g hg; omega),
                    (HI.out.kp.trans hk34 fun _ _ e => e).trans hk7 (fun i hi e => by have := own_ge hov4 e; omega), fun _ => ⟨by omega, by omega, by have := HST.out; simpa [List.drop_drop, Nat.add_assoc] using this⟩, (fun h => by cases h)⟩
                clear hov4 ho7 hk7 ha7
                go_roundw
                case rel => exact ⟨q + 1, by have := HI.out.rdr.hk; omega, by go_num, hr7⟩
                case measure => simp [intOf]; omega
            · have hbad : R = none := HSI.out.bad2 hlq HN1.out (by rw [List.drop_drop]; exact hn2)
              have HG3 := Lib.hid hR4
              have hk34 := hk3.trans hk4 fun _ _ e => e
              subst hbad
              clear hn2
              have h2 : ¬ (4611686018427387903 : Int) - (f : Int) < (0 : Int) := by omega
              have hov4 := own_kp HI.out.own hk34 (fun g hg e => by have := own_ge HI.out.own hg; omega)
              have hsz4 := hk34.size

              go_wp2_with (at_builtin; go_loud (refine wpList_app1 w4 _ _ rfl (.tmp 33) (.tmp 39) 34 56 rfl es w1.heap.size _ _ _ hov4 rfl 1 1 rfl rfl (by simp [Value.oneCell']) (by simp only [maxLen]; omega) (by omega) (by omega) ?_; intro v7 w7 ho7 hk7 ha7))
              have hr7 : Hid (∃ pre p bad, SpaInv w1 w7 rb A c ok xs m none (q + 1) v7 pre p bad) :=
                ⟨pre ++ [((f : Int), (f : Int) + (0 : Int))], _, true, by rw [List.length_append, HI.out.len]; rfl, by have := HI.out.rdr.hk; omega, by rw [sps_app]; exact ho7, hR4.kp hk7 (fun e => by have := own_ge hov4 e; omega) (fun g hg e => by have := own_ge hov4 e; have := hok g hg; omega),
                  (HI.out.kp.trans hk34 fun _ _ e => e).trans hk7 (fun i hi e => by have := own_ge hov4 e; omega), (fun h => by cases h), fun _ => SpBad.none⟩
              clear hov4 ho7 hk7 ha7
              go_roundw
              case rel => exact ⟨q + 1, by have := HI.out.rdr.hk; omega, by go_num, hr7⟩
              case measure => simp [intOf]; omega
          · have hbad : R = none := HSI.out.bad1 hlq hn1
            subst hbad
            clear hn1
            have HG2 := Lib.hid (refget_idle rb A c ok xs j3 w3 hR3)
            go_wp2_with fail
            refine HG2.out.mono ?_
            rintro e w4 ⟨rfl, rfl⟩
            have hov4 := own_kp HI.out.own hk3 (fun g hg e => by have := own_ge HI.out.own hg; omega)
            have hsz4 := hk3.size

            go_wp2_with (at_builtin; go_loud (refine wpList_app1 w3 _ _ rfl (.tmp 33) (.tmp 39) 34 56 rfl es w1.heap.size _ _ _ hov4 rfl 1 1 rfl rfl (by simp [Value.oneCell']) (by simp only [maxLen]; omega) (by omega) (by omega) ?_; intro v7 w7 ho7 hk7 ha7))
            have hr7 : Hid (∃ pre p bad, SpaInv w1 w7 rb A c ok xs m none (q + 1) v7 pre p bad) :=
              ⟨pre ++ [((0 : Int), (0 : Int))], _, true, by rw [List.length_append, HI.out.len]; rfl, by have := HI.out.rdr.hk; omega, by rw [sps_app]; exact ho7, hR3.kp hk7 (fun e => by have := own_ge hov4 e; omega) (fun g hg e => by have := own_ge hov4 e; have := hok g hg; omega),
                (HI.out.kp.trans hk3 fun _ _ e => e).trans hk7 (fun i hi e => by have := own_ge hov4 e; omega), (fun h => by cases h), fun _ => SpBad.none⟩
            clear hov4 ho7 hk7 ha7
            go_roundw
            case rel => exact ⟨q + 1, by have := HI.out.rdr.hk; omega, by go_num, hr7⟩
            case measure => simp [intOf]; omega
        · have hqe : q = m := by omega
          subst hqe
          have hd := HSI.out.done
          have h1 : ¬ (q : Int) < (q : Int) := by omega
          have HD := Lib.hid hd
          clear hd
          go_wp2_with fail
          go_ret
          exact ⟨.inl ⟨q, k, pre, p, _, HRD.out, by rw [← HRE.out]; exact HD.out, rfl, by rw [HI.out.len]; exact own_base HI.out.own (fun g hg => by have := own_ge HI.out.own hg; omega), by rw [HI.out.len]; exact hq, HI.out.rdr⟩, HK1.out.trans HI.out.kp fun _ _ e => e⟩
  · have HI := Lib.hid hR
    obtain ⟨hc0, hc1, hc2, hfz⟩ := hR.cell
    clear hR hfz
    go_wp2_with fail
    go_loopw [4, 5] (fun x4 x5 wr => x4 = .slice none 0 0 ∧ x5 = .int .i64 0 ∧ w1 = wr) (fun _ _ _ => 0)
    case atStart => exact ⟨rfl, rfl, rfl⟩
    case round =>
      obtain ⟨rfl, rfl, rfl⟩ := hrel
      go_wp2_with fail
      go_ret
      exact ⟨.inr ⟨(fun m k e => by rw [hrd] at e; cases e), [], _, j, rfl, World.ownsRow_nil _ _ _ _, by simp, HI.out⟩, hk1⟩

end Go.Proofs.YtjgnapjhlhdgfaaDoor

namespace Go.Proofs.YtjgnapjhlhdgfaaDoor
open Go.RowKit

theorem still_load_row {P : Program} {o : Oper} {a : Act} {w : World} {K : Act → Prop} (ty : TypeId) (x : Operand) (ho : o.op = .load ty x)
    (g : Nat) (hx : a.eval x = .pointer (some ⟨g, 0, none⟩)) (t : TypeId) (cs : Array Value) (fr : Nat × Nat) (d : TypeDesc) (hg : w.heap[g]? = some (.cells cs t fr))
    (hu : P.underlying ty = some d) (hd : (match d with | .struct _ | .array _ _ => true | _ => false) = true) (hi : (P.info? ty).map (·.size) = some cs.size)
    (h : K (a.put o.dst (.agg cs))) : o.still P a w K := by
  unfold Oper.still execOp
  simp only [ho, hx, Instr.loadAt, Instr.sureAddr, Sem.run_bind, Sem.run_pure, Result.andThen_ok, run_loadVar_row w g t ty cs fr d hg hu hd hi]
  exact ⟨rfl, h⟩

theorem rref_results (fr : Array Value) (b2 : Nat) (C : Array Value) (x : Int) (w : World) (hC : C.size = 11)
    (ht2 : fr.getD 2 undef = .pointer (some ⟨b2, 0, none⟩)) (ht3 : fr.getD 3 undef = .int .i64 x) (h2 : w.heap[b2]? = some (.cells C 36 (0, 0))) :
    (results Tryd.f48 fr).run Tryd.prog w = .ok (.tuple #[.agg C, .int .i64 x]) w := by
  have hl := run_loadVar_row (P := Tryd.prog) w b2 36 36 C (0, 0) _ h2 Tryd.underlying36 rfl (by rw [hC]; kernel_rfl)
  have ht2' : fr[2]?.getD undef = .pointer (some ⟨b2, 0, none⟩) := by simpa using ht2
  have ht3' : fr[3]?.getD undef = .int .i64 x := by simpa using ht3
  simp [results, Tryd.results48, ht2', ht3', asAddr, hl]

set_option maxRecDepth 100000 in
set_option maxHeartbeats 3200000 in
theorem refread_long (A : Option Addr) (n c : Nat) (w : World) (hn : 131072 < n) : Calls Tryd.prog 48 #[.slice A n c] w (ReadPost w (⟨zeroR, [], [], []⟩, 2)) := by
  have h1 : (131072 : Int) < (n : Int) := by omega
  go_enter Tryd.func48, Tryd.ntmps48
  go_wp2
  exact ⟨rfl, _, rref_results _ w.heap.size zeroC 2 _ (by kernel_rfl) rfl rfl (heap_alloc_new _ _), readPost_zero 2 ((Kp.refl _ w).alloc _)⟩

set_option maxRecDepth 100000 in
set_option maxHeartbeats 3200000 in
theorem refread_empty (A : Option Addr) (c : Nat) (w : World) : Calls Tryd.prog 48 #[.slice A 0 c] w (ReadPost w (⟨zeroR, [], [], []⟩, 61)) := by
  go_enter Tryd.func48, Tryd.ntmps48
  go_wp2
  exact ⟨rfl, _, rref_results _ w.heap.size zeroC 61 _ (by kernel_rfl) rfl rfl (heap_alloc_new _ _), readPost_zero 61 ((Kp.refl _ w).alloc _)⟩

theorem rdP_min : ∀ (m : Nat) {xs : List UInt8} {l : List (Int × Int)} {r : List UInt8}, rdP m xs = some (l, r) → m ≤ xs.length
  | 0, xs, l, r, h => Nat.zero_le _
  | m + 1, xs, l, r, h => by
    simp only [rdP] at h
    split at h
    · cases h
    · rename_i f k hk
      split at h
      · cases h
      · rename_i n k2 hk2
        split at h
        · cases h
        · rename_i l' r' hr
          have h1 := rdP_min m hr
          have := (rdN_some hk).2.1
          have h3 := (rdN_some hk).2.2.1
          simp only [List.length_drop] at h1
          omega
theorem setN_k (a : Rc) (f : Nat) (x : Int) : (a.setN f x).k = a.k := by
  unfold Rc.setN
  split <;> rfl
theorem setN_sn (a : Rc) (f : Nat) (x : Int) : (a.setN f x).sn = a.sn ∧ (a.setN f x).dn = a.dn := by
  unfold Rc.setN
  split <;> exact ⟨rfl, rfl⟩
theorem setN_at (a : Rc) (f : Nat) (x : Int) (S : Option Addr) (sc : Nat) (D : Option Addr) (dc : Nat) : (a.at_ S sc D dc).setN f x = (a.setN f x).at_ S sc D dc := by
  unfold Rc.setN
  split <;> rfl
/-- A span that ends too far spoils the whole. -/
theorem doomed {k : Int} {j : Nat} {s1 s' : RSt} (hl : (fds k)[j]? = some 8) (hk : s1.a.k = k) (hb : ∃ x ∈ s1.sp, (4611686018427387903 : Int) < x.2) (h : rdL ((fds k).drop (j + 1)) s1 = some s') : okR s'.a s'.sp = false := by
  have hm : 8 ∈ fds k := List.mem_of_getElem? hl
  have hk11 := fds_eight hm
  subst hk11
  have e : fds 11 = [6, 8] := rfl
  rw [e] at hl h
  have hj : j = 1 := by
    match j, hl with
    | 0, hl => cases hl
    | 1, _ => rfl
    | j + 2, hl => cases hl
  subst hj
  simp only [List.drop_succ_cons, List.drop_zero, rdL, Option.some.injEq] at h
  subst h
  by_cases hok : okR s1.a s1.sp = true
  · have := (okR_f hok).spn (by rw [hk]; exact hm)
    obtain ⟨x, hx, hlt⟩ := hb
    have := okS_all this.2 x hx
    omega
  · simpa using hok

end Go.Proofs.YtjgnapjhlhdgfaaDoor

namespace Go.Proofs.YtjgnapjhlhdgfaaDoor
open Go.RowKit

section
variable {rb : Nat} {A : Option Addr} {c : Nat} {ok : Nat → Prop} {xs : List UInt8} {p : Nat} {bad : Bool} {w : World}

theorem un_any (s : RSt) (f : Nat) (hf : f < 8) (h : Rdr w rb A c ok xs p bad) (hs : bad = false → s.r = xs.drop p) :
    Calls Tryd.prog 72 #[.pointer (some ⟨rb, 0, none⟩)] w fun e w' => ∃ (m : Nat) (p' : Nat) (bad' : Bool), e = .returned (.int .i64 (m : Int)) ∧ Rdr w' rb A c ok xs p' bad' ∧ Kp (fun g => g = rb) w w' ∧
      (bad' = false → bad = false ∧ rdF s f = some ⟨s.a.setN f m, s.sp, s.dt, xs.drop p'⟩) ∧ (bad' = true → bad = true ∨ rdF s f = none) := by
  cases bad with
  | true =>
    refine (refget_idle rb A c ok xs p w h).mono ?_
    rintro e w' ⟨rfl, rfl⟩
    exact ⟨0, p, true, rfl, h, Kp.refl _ _, (fun e => by cases e), fun _ => .inl rfl⟩
  | false =>
    have hs' := hs rfl
    refine (refget_any rb A c ok xs p w h).mono ?_
    rintro e w' ⟨⟨m, k, hrd, rfl, hR⟩ | ⟨hrd, rfl, j, hR⟩, hk⟩
    · refine ⟨m, p + k, false, rfl, hR, hk, fun _ => ⟨rfl, ?_⟩, fun e => by cases e⟩
      unfold rdF
      rw [hs', hrd]
      simp only
      rw [if_neg (by omega), if_neg (by omega), List.drop_drop]
    · refine ⟨0, j, true, rfl, hR, hk, (fun e => by cases e), fun _ => .inr ?_⟩
      unfold rdF
      rw [hs', hrd]

theorem ub_any (s : RSt) (h : Rdr w rb A c ok xs p bad) (hs : bad = false → s.r = xs.drop p) :
    Calls Tryd.prog 70 #[.pointer (some ⟨rb, 0, none⟩)] w fun e w' => ∃ (D : Option Addr) (m dc : Nat) (dt : List UInt8) (p' : Nat) (bad' : Bool), e = .returned (.slice D m dc) ∧ w'.ownsRow w.heap.size 5 1 (.slice D m dc) m (bys dt) ∧ m ≤ 131072 ∧
      Rdr w' rb A c ok xs p' bad' ∧ Kp (fun g => g = rb) w w' ∧ (bad' = false → bad = false ∧ rdF s 9 = some ⟨{ s.a with dn := m }, s.sp, dt, xs.drop p'⟩) ∧ (bad' = true → bad = true ∨ rdF s 9 = none) := by
  have hHN := h.hn
  cases bad with
  | true =>
    refine (refbytes_idle rb A c ok xs p w h).mono ?_
    rintro e w' ⟨rfl, hR, hk⟩
    exact ⟨none, 0, 0, [], p, true, rfl, World.ownsRow_nil _ _ _ _, by omega, hR, hk, (fun e => by cases e), fun _ => .inl rfl⟩
  | false =>
    have hs' := hs rfl
    refine (refbytes_any rb A c ok xs p w h).mono ?_
    rintro e w' ⟨⟨m, k, v, hrd, hle, rfl, ho, hR⟩ | ⟨hrd, rfl, j, hR⟩, hk⟩
    · obtain ⟨D, dc, rfl, _, _⟩ := own_read ho
      refine ⟨D, m, dc, _, p + k + m, false, rfl, ho, ?_, hR, hk, fun _ => ⟨rfl, ?_⟩, fun e => by cases e⟩
      · simp only [List.length_drop] at hle
        omega
      · unfold rdF
        rw [hs', hrd]
        simp only
        rw [if_pos trivial, if_pos hle, List.drop_drop, List.drop_drop]
    · refine ⟨none, 0, 0, [], j, true, rfl, World.ownsRow_nil _ _ _ _, by omega, hR, hk, (fun e => by cases e), fun _ => .inr ?_⟩
      unfold rdF
      rw [hs']
      cases hq : rdN (xs.drop p) with
      | none => rfl
      | some mk =>
        obtain ⟨m, k⟩ := mk
        have := hrd m k hq
        simp only
        rw [if_pos trivial, if_neg (by omega)]

theorem us_any (s : RSt) (h : Rdr w rb A c ok xs p bad) (hs : bad = false → s.r = xs.drop p) (hok : ∀ g, ok g → g < w.heap.size) :
    Calls Tryd.prog 71 #[.pointer (some ⟨rb, 0, none⟩)] w fun e w' => ∃ (S : Option Addr) (m sc : Nat) (sp : List (Int × Int)) (p' : Nat) (bad' : Bool), e = .returned (.slice S m sc) ∧ w'.ownsRow w.heap.size 56 2 (.slice S m sc) m (sps sp) ∧ m ≤ 131080 ∧
      Rdr w' rb A c ok xs p' bad' ∧ Kp (fun g => g = rb) w w' ∧ (bad' = false → bad = false ∧ rdF s 8 = some ⟨{ s.a with sn := m }, sp, s.dt, xs.drop p'⟩) ∧
      (bad' = true → bad = true ∨ rdF s 8 = none ∨ ∃ s1, rdF s 8 = some s1 ∧ s1.a.k = s.a.k ∧ ∃ x ∈ s1.sp, (4611686018427387903 : Int) < x.2) := by
  have hHN := h.hn
  cases bad with
  | true =>
    refine (refspans_idle rb A c ok xs p w h).mono ?_
    rintro e w' ⟨rfl, rfl⟩
    exact ⟨none, 0, 0, [], p, true, rfl, World.ownsRow_nil _ _ _ _, by omega, h, Kp.refl _ _, (fun e => by cases e), fun _ => .inl rfl⟩
  | false =>
    have hs' := hs rfl
    refine (refspans_any rb A c ok xs p w h hok).mono ?_
    rintro e w' ⟨⟨m, k, l, p', v, hrd, hP, rfl, ho, hl, hR⟩ | ⟨hrd, l, v, j, rfl, ho, hl, hR⟩, hk⟩
    · obtain ⟨S, sc, rfl, _, _⟩ := own_read ho
      refine ⟨S, l.length, sc, l, p', false, rfl, ho, hl, hR, hk, fun _ => ⟨rfl, ?_⟩, fun e => by cases e⟩
      have hm := rdP_min _ hP
      have hml := rdP_len _ hP
      unfold rdF
      rw [hs', hrd]
      simp only
      rw [if_neg (by omega), if_pos trivial, if_pos hm, hP, hml]
    · obtain ⟨S, sc, rfl, _, _⟩ := own_read ho
      refine ⟨S, l.length, sc, l, j, true, rfl, ho, hl, hR, hk, (fun e => by cases e), fun _ => .inr ?_⟩
      cases hq : rdN (xs.drop p) with
      | none =>
        refine .inl ?_
        unfold rdF
        rw [hs', hq]
      | some mk =>
        obtain ⟨m, k⟩ := mk
        have hb := hrd m k hq
        by_cases hle : m ≤ ((xs.drop p).drop k).length
        · cases hP : rdP m ((xs.drop p).drop k) with
          | none =>
            refine .inl ?_
            unfold rdF
            rw [hs', hq]
            simp only
            rw [if_neg (by omega), if_pos trivial, if_pos hle, hP]
          | some lr =>
            obtain ⟨l', r'⟩ := lr
            refine .inr ⟨⟨{ s.a with sn := m }, l', s.dt, r'⟩, ?_, rfl, hb l' r' hP⟩
            unfold rdF
            rw [hs', hq]
            simp only
            rw [if_neg (by omega), if_pos trivial, if_pos hle, hP]
        · refine .inl ?_
          unfold rdF
          rw [hs', hq]
          simp only
          rw [if_neg (by omega), if_pos trivial, if_neg hle]
end

end Go.Proofs.YtjgnapjhlhdgfaaDoor
