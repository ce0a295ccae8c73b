/- Records: the table's last column, the document's and the program's. -/
import Derived.Test.YtjgnapjhlhdgfaaDoorRb
set_option linter.unusedVariables false
set_option linter.unusedSimpArgs false
namespace Go.Proofs.YtjgnapjhlhdgfaaDoor
open Go.RowKit

def head1 : List (Int × Int) → Bool
  | [] => false
  | s :: _ => decide (1 ≤ s.1)
def fitS (a : Rc) (sp : List (Int × Int)) : Bool :=
  if a.k = 1 then decide (1 ≤ a.z ∧ a.z ≤ 1073741824)
  else if a.k = 2 then decide (1 ≤ a.z)
  else if a.k = 3 then decide (1 ≤ a.p ∧ 1 ≤ a.r ∧ a.r ≤ a.z ∧ a.z ≤ 65536 ∧ (a.dn : Int) = a.r)
  else if a.k = 4 then decide (a.h ≤ 6)
  else if a.k = 6 then decide (1 ≤ a.dn ∧ a.f + (a.dn : Int) ≤ 65536 ∧ (a.r = 0 ∨ (a.f + (a.dn : Int) ≤ a.r ∧ a.r ≤ 65536)) ∧ (a.z = 0 ∨ (a.f + (a.dn : Int) ≤ a.z ∧ a.r ≤ a.z ∧ a.z ≤ 65536)))
  else if a.k = 8 then decide (a.h ≤ 5)
  else if a.k = 11 then (decide (1 ≤ a.z ∧ 1 ≤ a.sn ∧ a.sn ≤ 500) && okS sp) && head1 sp
  else if a.k = 12 then decide (1 ≤ a.r ∧ a.r ≤ 65536 ∧ (a.z = 0 ∨ (a.r ≤ a.z ∧ a.z ≤ 65536)))
  else true

theorem between_any (n a b : Int) (w : World) : Calls Tryd.prog 33 #[.int .i64 n, .int .i64 a, .int .i64 b] w fun e w' => e = .returned (.bool (decide (a ≤ n ∧ n ≤ b))) ∧ w = w' := by
  go_enter Tryd.func33, Tryd.ntmps33
  go_wp2
  all_goals
    go_ret
    refine ⟨retb ?_, rfl⟩
    rw [Bool.eq_iff_iff]
    simp
    try omega

set_option maxRecDepth 100000 in
set_option maxHeartbeats 3200000 in
theorem fit_any (a : Rc) (ok : Nat → Prop) (sp : List (Int × Int)) (w : World) (hr : Rd w ok 2 a.S a.sn (sps sp)) (hn : a.sn ≤ 9223372036854775807) (hd : a.dn ≤ 140737488355328)
    (hf0 : 0 ≤ a.f) (hf1 : a.f ≤ maxN) :
    Calls Tryd.prog 75 #[a.val] w fun e w' => e = .returned (.bool (fitS a sp)) ∧ Nw w w' := by
  obtain ⟨k, o, n, p, v, f, r, z, h, S, sn, sc, D, dn, dc⟩ := a
  simp only at hr hn hd hf0 hf1
  have hln : sp.length = sn := by have := hr.1; rw [sps_len] at this; omega
  have hk : k = 1 ∨ k = 2 ∨ k = 3 ∨ k = 4 ∨ k = 6 ∨ k = 8 ∨ k = 12 ∨ k = 11 ∨ (k ≠ 1 ∧ k ≠ 2 ∧ k ≠ 3 ∧ k ≠ 4 ∧ k ≠ 6 ∧ k ≠ 8 ∧ k ≠ 11 ∧ k ≠ 12) := by omega
  show Calls Tryd.prog 75 #[.agg #[.int .i64 k, .int .i64 o, .int .i64 n, .int .i64 p, .int .i64 v, .int .i64 f, .int .i64 r, .int .i64 z, .int .i64 h, .slice S sn sc, .slice D dn dc]] w _
  unfold maxN at hf1
  rcases hk with rfl | rfl | rfl | rfl | rfl | rfl | rfl | rfl | hk
  iterate 7
    · go_enter Tryd.func75, Tryd.ntmps75
      go_wp2
      all_goals
        go_ret
        refine ⟨retb ?_, (Kp.refl _ _).alloc _⟩
        rw [Bool.eq_iff_iff]
        simp [fitS]
        try omega
  · have HR := Lib.hid (fun W (h : Rd W ok 2 S sn (sps sp)) => right3_any S sn sc ok sp W h hn)
    have HRD := Lib.hid hr
    clear hr
    have hfit : fitS ⟨11, o, n, p, v, f, r, z, h, S, sn, sc, D, dn, dc⟩ sp = ((decide (1 ≤ z ∧ 1 ≤ sn ∧ sn ≤ 500) && okS sp) && head1 sp) := rfl
    rw [hfit]
    clear hfit
    generalize okS sp = q at HR ⊢
    go_enter Tryd.func75, Tryd.ntmps75
    go_wp2_with fail
    refine (HR.out _ (HRD.out.alloc _)).mono ?_
    rintro e w2 ⟨rfl, hnw2⟩
    have hb0 := NwS.cell (w := w.alloc (.cells #[.int .i64 11, .int .i64 o, .int .i64 n, .int .i64 p, .int .i64 v, .int .i64 f, .int .i64 r, .int .i64 z, .int .i64 h, .slice S sn sc, .slice D dn dc] 36)) (p := ⟨w.heap.size, 7, none⟩) (v := .int .i64 z) (by simp) ⟨w2, hnw2⟩
    have hb1 := NwS.cell (w := w.alloc (.cells #[.int .i64 11, .int .i64 o, .int .i64 n, .int .i64 p, .int .i64 v, .int .i64 f, .int .i64 r, .int .i64 z, .int .i64 h, .slice S sn sc, .slice D dn dc] 36)) (p := ⟨w.heap.size, 9, none⟩) (v := .slice S sn sc) (by simp) ⟨w2, hnw2⟩
    have hb0' : w2.cell? ⟨w.heap.size, 7, none⟩ = some (.int .i64 z) := hb0
    have hb1' : w2.cell? ⟨w.heap.size, 9, none⟩ = some (.slice S sn sc) := hb1
    clear hb0 hb1
    have hrd2 := (HRD.out.alloc (.cells #[.int .i64 11, .int .i64 o, .int .i64 n, .int .i64 p, .int .i64 v, .int .i64 f, .int .i64 r, .int .i64 z, .int .i64 h, .slice S sn sc, .slice D dn dc] 36)).nw hnw2
    cases sp with
    | nil =>
      simp only [List.length_nil] at hln
      subst hln
      cases q
      all_goals
        go_wp2_with fail
        all_goals
          go_ret
          exact ⟨retb (by simp [head1]), ((Kp.refl _ _).alloc _).nw hnw2⟩
    | cons s sp =>
      obtain ⟨ad, rfl, _, hc1, hc2⟩ := hrd2.span (k := 0) (by simp)
      simp only [Nat.zero_mul, add_zero_, List.getElem_cons_zero] at hc1
      simp only [List.length_cons] at hln
      obtain ⟨x, y⟩ := s
      simp only [] at hc1
      have hl1 : (0 : Int) < (sn : Int) := by omega
      clear hrd2 hc2
      cases q
      all_goals
        go_wp2_with fail
        all_goals
          go_ret
          refine ⟨retb ?_, ((Kp.refl _ _).alloc _).nw hnw2⟩
          first
            | (simp [head1]; done)
            | (rw [Bool.eq_iff_iff]; simp [head1]; omega)
  · obtain ⟨h1, h2, h3, h4, h5, h6, h7, h8⟩ := hk
    have hfit : fitS ⟨k, o, n, p, v, f, r, z, h, S, sn, sc, D, dn, dc⟩ sp = true := by simp [fitS, *]
    rw [hfit]
    clear hfit
    go_enter Tryd.func75, Tryd.ntmps75
    go_wp2
    go_ret
    exact ⟨rfl, (Kp.refl _ _).alloc _⟩

end Go.Proofs.YtjgnapjhlhdgfaaDoor
