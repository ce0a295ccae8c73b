/- Records: the table's last column, the program's. Records: the program's fields and places. -/
import Derived.Test.YtjgnapjhlhdgfaaDoorRc
set_option linter.unusedVariables false
set_option linter.unusedSimpArgs false
namespace Go.Proofs.YtjgnapjhlhdgfaaDoor
open Go.RowKit

set_option maxRecDepth 100000 in
set_option maxHeartbeats 3200000 in
theorem fits_any (a : Rc) (ok : Nat → Prop) (sp : List (Int × Int)) (w : World) (hr : Rd w ok 2 a.S a.sn (sps sp)) (hn : a.sn ≤ 9223372036854775807) (hd : a.dn ≤ 140737488355328)
    (hf0 : 0 ≤ a.f) (hf1 : a.f ≤ maxN) :
    Calls Tryd.prog 34 #[a.val] w fun e w' => e = .returned (.bool (fitS a sp)) ∧ Nw w w' := by
  obtain ⟨k, o, n, p, v, f, r, z, h, S, sn, sc, D, dn, dc⟩ := a
  simp only at hr hn hd hf0 hf1
  have hln : sp.length = sn := by have := hr.1; rw [sps_len] at this; omega
  have hk : k = 1 ∨ k = 2 ∨ k = 3 ∨ k = 4 ∨ k = 6 ∨ k = 8 ∨ k = 12 ∨ k = 11 ∨ (k ≠ 1 ∧ k ≠ 2 ∧ k ≠ 3 ∧ k ≠ 4 ∧ k ≠ 6 ∧ k ≠ 8 ∧ k ≠ 11 ∧ k ≠ 12) := by omega
  show Calls Tryd.prog 34 #[.agg #[.int .i64 k, .int .i64 o, .int .i64 n, .int .i64 p, .int .i64 v, .int .i64 f, .int .i64 r, .int .i64 z, .int .i64 h, .slice S sn sc, .slice D dn dc]] w _
  unfold maxN at hf1
  rcases hk with rfl | rfl | rfl | rfl | rfl | rfl | rfl | rfl | hk
  iterate 7
    · go_enter Tryd.func34, Tryd.ntmps34
      go_wp2_with (go_at_call 33; refine (between_any _ _ _ _).mono ?_; rintro e w' ⟨rfl, rfl⟩)
      all_goals
        go_ret
        refine ⟨retb ?_, (Kp.refl _ _).alloc _⟩
        rw [Bool.eq_iff_iff]
        simp [fitS]
        try first | omega | (simp only [beq_iff_eq] at *; omega)
  · have HR := Lib.hid (fun W (h : Rd W ok 2 S sn (sps sp)) => right_any S sn sc ok sp W h hn)
    have HRD := Lib.hid hr
    have hfit : fitS ⟨11, o, n, p, v, f, r, z, h, S, sn, sc, D, dn, dc⟩ sp = ((decide (1 ≤ z ∧ 1 ≤ sn ∧ sn ≤ 500) && okS sp) && head1 sp) := rfl
    rw [hfit]
    clear hfit
    generalize okS sp = q at HR ⊢
    generalize hB : (World.alloc w (.cells #[.int .i64 11, .int .i64 o, .int .i64 n, .int .i64 p, .int .i64 v, .int .i64 f, .int .i64 r, .int .i64 z, .int .i64 h, .slice S sn sc, .slice D dn dc] 36)) = wB
    have hnB : Nw w wB := by rw [← hB]; exact (Kp.refl _ _).alloc _
    have hb1 := NwS.cell (w := wB) (p := ⟨w.heap.size, 9, none⟩) (v := .slice S sn sc) (by rw [← hB]; simp)
    have HB1 := Lib.hid hb1
    have HBQ := Lib.hid hB
    clear hb1 hB
    cases sp with
    | nil =>
      simp only [List.length_nil] at hln
      subst hln
      clear hr
      go_enter Tryd.func34, Tryd.ntmps34
      go_wp2_with (first | (go_at_call 33; refine (between_any _ _ _ _).mono ?_; rintro e w' ⟨rfl, rfl⟩) | (go_at_call 53; rw [HBQ.out]; refine (HR.out _ (HRD.out.nw hnB)).mono ?_; rintro e w2 ⟨rfl, hnw2⟩))
      all_goals
        go_ret
        exact ⟨retb (by simp [head1]; try omega), (Kp.refl _ _).alloc _⟩
    | cons s sp =>
      obtain ⟨ad, rfl, _, hc1, hc2⟩ := hr.span (k := 0) (by simp)
      simp only [Nat.zero_mul, add_zero_, List.getElem_cons_zero] at hc1
      simp only [List.length_cons] at hln
      obtain ⟨x, y⟩ := s
      simp only [] at hc1
      have HC1 := Lib.hid hc1
      have hl1 : (0 : Int) < (sn : Int) := by omega
      clear hr hc2 hc1
      cases q
      all_goals
        go_enter Tryd.func34, Tryd.ntmps34
        go_wp2_with (first | (go_at_call 33; refine (between_any _ _ _ _).mono ?_; rintro e w' ⟨rfl, rfl⟩) | (go_at_call 53; rw [HBQ.out]; refine (HR.out _ (HRD.out.nw hnB)).mono ?_; rintro e w2 ⟨rfl, hnw2⟩; have hb1 := HB1.out ⟨w2, hnw2⟩; have hb1' : w2.cell? ⟨w.heap.size, 9, none⟩ = some (.slice (some ad) sn sc) := hb1; have hc1 := ((hnB.nw hnw2).cell (World.block_lt_of_cell? _ _ HC1.out) (fun e => e)).trans HC1.out; clear hb1))
        all_goals
          go_ret
          refine ⟨retb ?_, ?_⟩
          · first
              | (simp [head1]; done)
              | (simp [head1]; omega)
              | (rw [Bool.eq_iff_iff]; simp [head1]; omega)
          · first
              | exact (Kp.refl _ _).alloc _
              | exact hnB.nw hnw2
  · obtain ⟨h1, h2, h3, h4, h5, h6, h7, h8⟩ := hk
    have hfit : fitS ⟨k, o, n, p, v, f, r, z, h, S, sn, sc, D, dn, dc⟩ sp = true := by simp [fitS, *]
    rw [hfit]
    clear hfit
    go_enter Tryd.func34, Tryd.ntmps34
    go_wp2_with (go_at_call 33; refine (between_any _ _ _ _).mono ?_; rintro e w' ⟨rfl, rfl⟩)
    go_ret
    exact ⟨rfl, (Kp.refl _ _).alloc _⟩

end Go.Proofs.YtjgnapjhlhdgfaaDoor

namespace Go.Proofs.YtjgnapjhlhdgfaaDoor
open Go.RowKit

def iv (n : Nat) : Value := .int .i64 (n : Int)
def ivs (l : List Nat) : List Value := l.map iv
theorem ivs_len (l : List Nat) : (ivs l).length = l.length := by simp [ivs]

set_option maxRecDepth 100000 in
set_option maxHeartbeats 1600000 in
theorem fields_any (k : Int) (w : World) :
    Calls Tryd.prog 31 #[.int .i64 k] w fun e w' => ∃ v, e = .returned v ∧ w'.ownsRow w.heap.size 3 1 v (fds k).length (ivs (fds k)) ∧ Nw w w' := by
  have hk : k = 1 ∨ k = 2 ∨ k = 3 ∨ k = 4 ∨ k = 5 ∨ k = 6 ∨ k = 7 ∨ k = 8 ∨ k = 9 ∨ k = 10 ∨ k = 11 ∨ k = 12 ∨ (k ≠ 1 ∧ k ≠ 2 ∧ k ≠ 3 ∧ k ≠ 4 ∧ k ≠ 5 ∧ k ≠ 6 ∧ k ≠ 7 ∧ k ≠ 8 ∧ k ≠ 9 ∧ k ≠ 10 ∧ k ≠ 11 ∧ k ≠ 12) := by omega
  rcases hk with rfl | rfl | rfl | rfl | rfl | rfl | rfl | rfl | rfl | rfl | rfl | rfl | ⟨h1, h2, h3, h4, h5, h6, h7, h8, h9, h10, h11, h12⟩
  all_goals
    go_enter Tryd.func31, Tryd.ntmps31
    go_wp2
    go_ret
  rotate_right
  · have : fds k = [] := by simp [fds, *]
    rw [this]
    exact ⟨_, rfl, World.ownsRow_nil _ _ _ _, Kp.refl _ _⟩
  all_goals exact ⟨_, rfl, own_lit w _ _ (by simp [maxLen, fds]) rfl (Nat.le_refl _), (Kp.refl _ _).alloc _⟩

set_option maxRecDepth 100000 in
set_option maxHeartbeats 1600000 in
theorem place_any (b : Nat) (i : Nat) (hi : i < 8) (w : World) :
    Calls Tryd.prog 32 #[.pointer (some ⟨b, 0, none⟩), .int .i64 (i : Int)] w fun e w' => e = .returned (.pointer (some ⟨b, i + 1, none⟩)) ∧ w = w' := by
  have : i = 0 ∨ i = 1 ∨ i = 2 ∨ i = 3 ∨ i = 4 ∨ i = 5 ∨ i = 6 ∨ i = 7 := by omega
  rcases this with rfl | rfl | rfl | rfl | rfl | rfl | rfl | rfl
  all_goals
    go_enter Tryd.func32, Tryd.ntmps32
    go_wp2
    go_ret
    exact ⟨rfl, rfl⟩

end Go.Proofs.YtjgnapjhlhdgfaaDoor
