/- Walks of layer 1 (sdnv): each function returns what the plain arithmetic says. -/
import Derived.Test.YtjgnapjhlhdgfaaDoorRows
import Derived.Test.YtjgnapjhlhdgfaaDoorShelf
import Derived.Test.YtjgnapjhlhdgfaaDoorWd
import Derived.Test.YtjgnapjhlhdgfaaDoorSb
set_option linter.unusedVariables false
set_option linter.unusedSimpArgs false
namespace Go.Proofs.YtjgnapjhlhdgfaaDoor
open Go.RowKit

theorem Tryd.infoU8 : (Tryd.prog.info? 5).map (fun i => (i.zero, i.size, i.bytes)) = some (some (.int .u8 0), 1, 1) := by kernel_rfl



set_option maxHeartbeats 400000 in
theorem size_any (n : Int) (w : World) (h0 : 0 ≤ n) (h1 : n < 18446744073709551616) :
    Calls Tryd.prog 69 #[.int .u64 n] w fun e w' => e = .returned (.int .i64 (siz n.toNat)) ∧ w = w' := by
  have hb : Lib.bitLen n.toNat ≤ 64 := Lib.bitLen_le _ 64 (Nat.le_refl _) (by omega)
  have HS := Lib.hid (siz_bits (n := n.toNat) (by omega))
  have h1' : n ≤ 18446744073709551615 := by omega
  clear h1
  go_enter Tryd.func69, Tryd.ntmps69
  go_wp2_with (go_at_call 87; refine (Tryd.bits_Len64 _ _ (by omega) (by omega)).mono ?_; rintro e w' ⟨rfl, rfl⟩)
  go_ret
  refine ⟨ret_int ?_, rfl⟩
  rw [← HS.out]
  omega

theorem Tryd.elU8 : Elem Tryd.prog 22 5 (.int .u8 0) 1 1 := ⟨Tryd.underlying22, by kernel_rfl, rfl, by omega⟩

set_option maxHeartbeats 800000 in
theorem put_any (v : Value) (n : Int) (base k : Nat) (xs : List UInt8) (w : World) (h0 : 0 ≤ n) (h1 : n < 18446744073709551616)
    (hown : w.ownsRow base 5 1 v k (bys xs)) (hbase : base ≤ w.heap.size) (hk : k ≤ 140737488350000) :
    Calls Tryd.prog 68 #[v, .int .u64 n] w fun e w' => ∃ v', e = .returned v' ∧ w'.ownsRow base 5 1 v' (k + siz n.toNat) (bys (xs ++ enc n.toNat)) ∧
      Kp (fun g => v.ownBlock = some g) w w' ∧ OwnAt w v v' := by
  have hs1 := siz_pos n.toNat
  have hs2 := siz_le (n := n.toNat) (by omega)
  have ei := Tryd.elU8
  go_enter Tryd.func68, Tryd.ntmps68
  go_wp2_with (go_at_call 69; refine (size_any _ _ (by omega) (by omega)).mono ?_; rintro e w' ⟨rfl, rfl⟩)
  go_loopw [0, 5] (fun u q wr => ∃ j : Nat, j + 1 ≤ siz n.toNat ∧ q = .int .i64 j ∧ wr.ownsRow base 5 1 u (k + (siz n.toNat - 1 - j)) (bys (xs ++ hi0 (n.toNat / 128 ^ (j + 1)))) ∧
      Kp (fun g => v.ownBlock = some g) w wr ∧ OwnAt w v u)
    (fun _ q _ => (intOf q).toNat)
  case atStart =>
    refine ⟨siz n.toNat - 1, by omega, by go_num, ?_, Kp.refl _ _, OwnAt.refl _ _⟩
    have e1 : siz n.toNat - 1 - (siz n.toNat - 1) = 0 := by omega
    have e2 : n.toNat / 128 ^ (siz n.toNat - 1 + 1) = 0 := by
      have := div_sz0 (n.toNat / 128)
      rw [Nat.div_div_eq_div_mul, ← Nat.pow_succ'] at this
      exact this
    rw [e1, e2, hi0_zero]
    simpa using hown
  case round =>
    obtain ⟨j, hj, rfl, hown', hkp, hat⟩ := hrel
    have hj0 : (0 : Int) ≤ (j : Int) := by omega
    have hj1 : (j : Int) ≤ 9 := by omega
    by_cases hc : 0 < j
    · have hc' : (0 : Int) < (j : Int) := by omega
      go_wp2_with (at_builtin; refine wpList_app1 wr _ _ rfl (.tmp 13) (.tmp 20) 22 5 rfl ei base _ _ _ hown' rfl 1 1 rfl rfl (by simp [Value.oneCell']) (by simp only [maxLen]; omega) (by omega) (by have := hkp.size; omega) ?_; intro v1 w1 hown1 hkp1 hat1)
      go_roundw
      case rel =>
        refine ⟨j - 1, by omega, by go_num, ?_, hat.kp hkp (fun _ e => e) hkp1, hat.trans hat1 hkp.size⟩
        have e1 : j - 1 + 1 = j := by omega
        have hne : n.toNat / 128 ^ j ≠ 0 := by
          have h2 := lt_of_sz0 (m := n.toNat / 128) (k := j - 1) (by unfold siz at hj; omega)
          rwa [Nat.div_div_eq_div_mul, ← Nat.pow_succ', Nat.succ_eq_add_one, e1] at h2
        rw [e1, hi0_step _ _ hne, ← List.append_assoc, bys_app]
        have e3 : k + (siz n.toNat - 1 - (j - 1)) = k + (siz n.toNat - 1 - j) + 1 := by omega
        rw [e3]
        have e4 := dig_bits n j h0
        simpa only [e4, bys, List.map_cons, List.map_nil] using hown1
      case measure => simp [intOf]; omega
    · have hc' : ¬ (0 : Int) < (j : Int) := by omega
      go_wp2_with (at_builtin; refine wpList_app1 wr _ _ rfl (.tmp 22) (.tmp 26) 22 5 rfl ei base _ _ _ hown' rfl 1 1 rfl rfl (by simp [Value.oneCell']) (by simp only [maxLen]; omega) (by omega) (by have := hkp.size; omega) ?_; intro v1 w1 hown1 hkp1 hat1)
      go_ret
      have hj' : j = 0 := by omega
      subst hj'
      refine ⟨v1, rfl, ?_, hat.kp hkp (fun _ e => e) hkp1, hat.trans hat1 hkp.size⟩
      unfold enc
      rw [← List.append_assoc, bys_app]
      have e3 : k + siz n.toNat = k + (siz n.toNat - 1 - 0) + 1 := by omega
      have e4 := low_bits n h0
      rw [e3]
      simpa only [e4, bys, List.map_cons, List.map_nil, Nat.pow_one, Nat.zero_add] using hown1

set_option maxHeartbeats 800000 in
theorem bytes_any (n : Int) (w : World) (h0 : 0 ≤ n) (h1 : n < 18446744073709551616) :
    Calls Tryd.prog 45 #[.int .u64 n] w fun e w' => ∃ v, e = .returned v ∧ w'.ownsRow w.heap.size 5 1 v (siz n.toNat) (bys (enc n.toNat)) ∧ Nw w w' := by
  have hs1 := siz_pos n.toNat
  have hs2 := siz_le (n := n.toNat) (by omega)
  have hmk : ∀ W : World, (Instr.makeSlice 22 (.int .i64 0) (.int .i64 (siz n.toNat : Nat))).run Tryd.prog W = .ok (.slice (some ⟨W.heap.size, 0, none⟩) 0 (siz n.toNat)) (W.alloc (.cells (madeCells #[.int .u8 0] (siz n.toNat)) 5)) := fun W => by
    have := run_mk Tryd.elU8 0 (siz n.toNat) (by omega) (by omega) (by omega) W
    rw [Nat.mul_one] at this
    exact this
  have hown : (w.alloc (.cells (madeCells #[.int .u8 0] (siz n.toNat)) 5)).ownsRow w.heap.size 5 1 (.slice (some ⟨w.heap.size, 0, none⟩) 0 (siz n.toNat)) 0 (bys []) :=
    World.ownsRow_made w _ _ (Nat.le_refl _) (by simp only [maxLen]; omega) (by rw [mk_size, Nat.mul_one])
  go_enter Tryd.func45, Tryd.ntmps45
  go_wp2_with (first
    | (go_at_call 69; refine (size_any _ _ (by omega) (by omega)).mono ?_; rintro e w' ⟨rfl, rfl⟩)
    | (go_at_call 68; refine (put_any _ _ _ _ _ _ (by omega) (by omega) hown (by simp) (by omega)).mono ?_; rintro e w' ⟨v1, rfl, hown1, hkp1, hat1⟩))
  go_ret
  refine ⟨v1, rfl, by simpa using hown1, ((Kp.refl _ w).alloc _).trans hkp1 fun i hi e => ?_⟩
  simp [Value.ownBlock] at e
  omega

def rdV (r : Nat × Nat × Nat) : Value := .tuple #[.int .u64 (r.1 : Int), .int .i64 (r.2.1 : Int), .int .i64 (r.2.2 : Int)]

theorem mul_small (a : Nat) (w : World) (h : a < 144115188075855872) :
    Calls Tryd.prog 89 #[.int .u64 a, .int .u64 128] w fun e w' => e = .returned (.tuple #[.int .u64 0, .int .u64 ((128 * a : Nat) : Int)]) ∧ w = w' := by
  refine (Tryd.bits_Mul64 a 128 (by omega) (by omega) w).mono fun e w' he => ⟨?_, he.2.symm⟩
  rw [he.1]
  have e1 : a * 128 / 18446744073709551616 = 0 := by omega
  have e2 : a * 128 % 18446744073709551616 = 128 * a := by omega
  rw [e1, e2]
  rfl
theorem mul_big (a : Nat) (w : World) (h : 144115188075855872 ≤ a) (h' : a < 18446744073709551616) :
    Calls Tryd.prog 89 #[.int .u64 a, .int .u64 128] w fun e w' => (∃ x y : Int, 0 < x ∧ e = .returned (.tuple #[.int .u64 x, .int .u64 y])) ∧ w = w' := by
  refine (Tryd.bits_Mul64 a 128 (by omega) (by omega) w).mono fun e w' he => ⟨⟨_, _, ?_, he.1⟩, he.2.symm⟩
  omega

/-- What the loop of Read knows. -/
def RdInv (xs : List UInt8) (k a : Nat) : Prop := rdS xs 0 0 = rdS (xs.drop k) a k ∧ a < 18446744073709551616
theorem RdInv.step {xs : List UInt8} {k a : Nat} (h : RdInv xs k a) (hk : k < xs.length) (hf : ¬ ∃ h : 0 < xs.length, xs[0].toNat = 128) (ha : a < 144115188075855872) (hc : ¬ xs[k].toNat < 128) :
    RdInv xs (k + 1) (128 * a + (xs[k].toNat - 128)) := by
  have hb : xs[k].toNat < 256 := xs[k].toNat_lt
  refine ⟨h.1.trans ?_, by omega⟩
  rw [List.drop_eq_getElem_cons hk]
  refine rdS_form ?_ ha hc
  rintro ⟨rfl, e⟩
  exact hf ⟨hk, e⟩
theorem RdInv.last {xs : List UInt8} {k a : Nat} (h : RdInv xs k a) (hk : k < xs.length) (ha : a < 144115188075855872) (hc : xs[k].toNat < 128) :
    rdS xs 0 0 = (128 * a + xs[k].toNat, k + 1, 0) := by
  rw [h.1, List.drop_eq_getElem_cons hk]
  exact rdS_last ha hc
theorem RdInv.range {xs : List UInt8} {k a : Nat} (h : RdInv xs k a) (hk : k < xs.length) (hf : ¬ ∃ h : 0 < xs.length, xs[0].toNat = 128) (ha : 144115188075855872 ≤ a) :
    rdS xs 0 0 = (0, 0, 12) := by
  rw [h.1, List.drop_eq_getElem_cons hk]
  refine rdS_range ?_ ha
  rintro ⟨rfl, e⟩
  exact hf ⟨hk, e⟩
theorem RdInv.short {xs : List UInt8} {k a : Nat} (h : RdInv xs k a) (hk : ¬ k < xs.length) : rdS xs 0 0 = (0, 0, 10) := by
  rw [h.1, List.drop_of_length_le (by omega)]
  rfl

set_option maxRecDepth 100000 in
set_option maxHeartbeats 800000 in
theorem read_any (A : Option Addr) (n c : Nat) (ok : Nat → Prop) (xs : List UInt8) (w : World) (hr : Rd w ok 1 A n (bys xs)) (hn : n ≤ 140737488355328) :
    Calls Tryd.prog 77 #[.slice A n c] w fun e w' => e = .returned (rdV (rdS xs 0 0)) ∧ w = w' := by
  have hl : xs.length = n := by have := hr.len; rwa [bys_len] at this
  subst hl
  by_cases hf : ∃ h : 0 < xs.length, xs[0].toNat = 128
  · obtain ⟨h0, h1⟩ := hf
    obtain ⟨ad, rfl, _, hc⟩ := hr.byte h0
    rw [h1, add_zero_] at hc
    have H1 : rdS xs 0 0 = (0, 0, 11) := by
      match xs, h0, h1 with
      | b :: bs, _, h1 => exact rdS_shape h1
    clear h1
    have H2 := Lib.hid H1
    clear H1
    go_enter Tryd.func77, Tryd.ntmps77
    go_wp2_with fail
    go_step3
    go_wp2_with fail
    rw [Exit.noGoto_ret]
    go_ret3
    exact ⟨by rw [H2.out]; rfl, rfl⟩
  · have H0 : RdInv xs 0 0 := ⟨by rw [List.drop_zero], by omega⟩
    have hfirst : ∀ h : 0 < xs.length, ∃ (ad : Addr) (b : Nat), A = some ad ∧ w.cell? ad = some (.int .u8 (b : Int)) ∧ b ≠ 128 := fun h => by
      obtain ⟨ad, rfl, _, hc⟩ := hr.byte h
      rw [add_zero_] at hc
      exact ⟨ad, _, rfl, hc, fun e => hf ⟨h, e⟩⟩
    have HF := Lib.hid hf
    clear hf
    by_cases h0 : 0 < xs.length
    · obtain ⟨ad, b0, rfl, hc0, hb0⟩ := hfirst h0
      have hb0' : ((b0 : Int) == 128) = false := by rw [beq_eq_false_iff_ne]; omega
      clear hfirst hb0
      go_enter Tryd.func77, Tryd.ntmps77
      go_wp2_with fail
      go_step3
      go_wp2_with fail
      go_step3
      go_wp2_with fail
      go_loop [5, 6, 22] (fun v q i => ∃ k a : Nat, k ≤ xs.length ∧ i = .int .i64 k ∧ v = .int .u64 a ∧ q = .int .i64 10 ∧ RdInv xs k a) (fun _ _ i => xs.length - (intOf i).toNat)
      case atStart => exact ⟨0, 0, by omega, rfl, rfl, rfl, H0⟩
      case round =>
        obtain ⟨k, a, hk, rfl, rfl, rfl, hI⟩ := hrel
        by_cases hlt : k < xs.length
        · obtain ⟨ad', hA, _, hc⟩ := hr.byte hlt
          obtain rfl : ad = ad' := by injection hA
          have hb : xs[k].toNat < 256 := xs[k].toNat_lt
          have hstep := fun ha hc => hI.step hlt HF.out ha hc
          have hlast := fun ha hc => hI.last hlt ha hc
          have hrange := fun ha => hI.range hlt HF.out ha
          have ha64 := hI.2
          clear hI
          generalize xs[k].toNat = b at *
          by_cases ha : a < 144115188075855872
          · by_cases hcb : b < 128
            · have hL := Lib.hid (hlast ha hcb)
              have hO := Lib.hid (or_low a b hcb ha)
              have HM := Lib.hid ha
              have hcb' : (b : Int) < 128 := by omega
              have hb0 : (0 : Int) ≤ (b : Int) := by omega
              clear hlast hstep hrange ha ha64
              go_wp2_with (go_at_call 89; refine (mul_small _ _ HM.out).mono ?_; rintro e w' ⟨rfl, rfl⟩)
              rw [Exit.noGoto_ret]
              go_ret3
              rw [hL.out, hO.out]
              exact ⟨by unfold rdV; go_num, rfl⟩
            · have hS := Lib.hid (hstep ha hcb)
              have hA' := Lib.hid (and_low b hb hcb)
              have hO := Lib.hid (or_low a (b - 128) (by omega) ha)
              have HM := Lib.hid ha
              have hcb' : ¬ (b : Int) < 128 := by omega
              have hb0 : (0 : Int) ≤ (b : Int) := by omega
              clear hlast hstep hrange ha ha64
              go_wp2_with (go_at_call 89; refine (mul_small _ _ HM.out).mono ?_; rintro e w' ⟨rfl, rfl⟩)
              go_round
              case rel => exact ⟨k + 1, 128 * a + (b - 128), by omega, by go_num, by rw [hA'.out, wrapU64 _ (by omega) (by omega), hO.out], rfl, hS.out⟩
              case measure => simp [intOf]; omega
          · have hR := Lib.hid (hrange (by omega))
            have HM : Hid (144115188075855872 ≤ a) := Nat.le_of_not_lt ha
            have HN := Lib.hid ha64
            clear hlast hstep hrange ha ha64
            go_wp2_with (go_at_call 89; refine (mul_big _ _ HM.out HN.out).mono ?_; rintro e w' ⟨⟨x, y, hx, rfl⟩, rfl⟩)
            rw [Exit.noGoto_ret]
            go_ret3
            exact ⟨by rw [hR.out]; rfl, rfl⟩
        · have hS := Lib.hid (hI.short hlt)
          clear hI
          go_wp2
          go_ret3
          exact ⟨by rw [hS.out]; rfl, rfl⟩
    · have hS := Lib.hid (H0.short h0)
      clear hfirst H0
      have hz : xs.length = 0 := by omega
      have h0' : ¬ (0 : Int) < (xs.length : Int) := by omega
      rw [hz]
      go_enter Tryd.func77, Tryd.ntmps77
      go_wp2_with fail
      go_step3
      go_wp2_with fail
      go_step3
      go_wp2_with fail
      refine wp_loop_rounds 1 ?_
      rw [rounds_succ]
      go_wp2
      rw [Exit.noGoto_ret]
      go_ret3
      exact ⟨by rw [hS.out]; rfl, rfl⟩

end Go.Proofs.YtjgnapjhlhdgfaaDoor
