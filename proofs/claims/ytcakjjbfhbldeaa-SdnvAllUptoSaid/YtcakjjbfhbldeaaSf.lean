/- Walks of the helpers of layer 1's statements: awake, lent, back, owned, sameNumbers, mine. -/
import Derived.Test.YtcakjjbfhbldeaaSe
set_option linter.unusedVariables false
set_option linter.unusedSimpArgs false
namespace Go.Proofs.Ytcakjjbfhbldeaa
open Go.RowKit

set_option maxRecDepth 100000 in
set_option maxHeartbeats 800000 in
theorem awake_any (w : World) : Calls Try.prog 10 #[] w fun e w' => e = .returned (.bool true) ∧ Nw w w' := by
  have HB := Lib.hid (bytes_any 300 w (by omega) (by omega))
  have e300 : enc 300 = [130, 44] := by
    have h1 : enc (300 : Int).toNat = enc 300 := rfl
    unfold enc hi0
    rw [show (300 : Nat) / 128 = 2 from rfl, dg0_pos (by omega), show (2 : Nat) / 128 = 0 from rfl, dg0_zero]
    rfl
  have s300 : siz (300 : Int).toNat = 2 := by rw [← enc_len, show (300 : Int).toNat = 300 from rfl, e300]; rfl
  have e300' : enc (300 : Int).toNat = [130, 44] := e300
  rw [s300, e300'] at HB
  have HR := Lib.hid (rdS_enc (n := 300) [7] (by omega))
  rw [e300, show siz 300 = 2 from s300] at HR
  clear e300 s300 e300'
  have HL : Hid (∀ W : World, Rd (W.alloc (.cells #[.int .u8 130, .int .u8 44, .int .u8 7] 5)) (fun _ => True) 1 (some ⟨W.heap.size, 0, none⟩) 3 (bys ([130, 44] ++ [7]))) := fun W =>
    (Rd.of_own (own_lit (e := 5) (size := 1) (base := 0) W #[.int .u8 130, .int .u8 44, .int .u8 7] 3 (by simp [maxLen]) rfl (Nat.zero_le _))).more fun _ _ => trivial
  have HC : Hid (∀ W : World, Calls Try.prog 13 #[.slice (some ⟨W.heap.size, 0, none⟩) 3 3] (W.alloc (.cells #[.int .u8 130, .int .u8 44, .int .u8 7] 5)) fun en w' =>
      en = .returned (.tuple #[.int .u64 300, .int .i64 2, .int .i64 0]) ∧ W.alloc (.cells #[.int .u8 130, .int .u8 44, .int .u8 7] 5) = w') := fun W =>
    read_tup _ 3 3 _ _ _ (HL.out W) (by omega) 300 2 0 HR.out
  go_enter Try.func10, Try.ntmps10
  go_wp2_with (first
    | (go_at_call 16; refine HB.out.mono ?_; rintro e w1 ⟨v1, rfl, hown1, hnw1⟩; obtain ⟨B, d, rfl, hd, hrd⟩ := own_read hown1)
    | (go_at_call 13; refine (HC.out _).mono ?_; rintro e w' ⟨rfl, rfl⟩; have hcv := run_cstr Try.underlying25 Try.underlying5 Try.underlying9 (hrd.alloc (.cells #[.int .u8 130, .int .u8 44, .int .u8 7] 5)) d; unfold sb at hcv))
  go_ret
  exact ⟨rfl, (Kp.alloc hnw1 _)⟩

theorem zeros_bys (n : Nat) : (madeCells #[.int .u8 0] n).toList = bys (List.replicate n 0) := by
  rw [toList_madeCells_one]
  simp only [bys, List.map_replicate]
  rfl

/-- The row while the marks are laid: j of nine. -/
def lentL (xs : List UInt8) (j : Nat) : List UInt8 := xs ++ (List.replicate j 201 ++ List.replicate (9 - j) 0)
theorem lentL_len (xs : List UInt8) (j : Nat) (h : j ≤ 9) : (lentL xs j).length = xs.length + 9 := by simp [lentL]; omega
theorem lentL_set (xs : List UInt8) (j : Nat) (h : j < 9) : (lentL xs j).set (xs.length + j) 201 = lentL xs (j + 1) := by
  unfold lentL
  rw [List.set_append_right _ _ (by omega), Nat.add_sub_cancel_left, List.set_append_right _ _ (by simp), List.length_replicate, Nat.sub_self]
  have e : 9 - j = (9 - (j + 1)) + 1 := by omega
  rw [e, List.replicate_succ, List.set_cons_zero, List.replicate_succ', List.append_assoc]
  rfl
theorem lentL_all (xs : List UInt8) : lentL xs 9 = xs ++ List.replicate 9 201 := by simp [lentL]

set_option maxRecDepth 100000 in
set_option maxHeartbeats 800000 in
theorem lent_any (A : Option Addr) (n c : Nat) (ok : Nat → Prop) (xs : List UInt8) (w : World) (hr : Rd w ok 1 A n (bys xs)) (hn : n ≤ 140737488351232) :
    Calls Try.prog 12 #[.slice A n c] w fun e w' => ∃ g, e = .returned (.slice (some ⟨g, 0, none⟩) (n + 9) (n + 9)) ∧
      w'.ownsRow w.heap.size 5 1 (.slice (some ⟨g, 0, none⟩) (n + 9) (n + 9)) (n + 9) (bys (xs ++ List.replicate 9 201)) ∧ Nw w w' := by
  have hln : xs.length = n := by have := hr.len; rwa [bys_len] at this
  subst hln
  have ei := Try.elU8
  have hmk : ∀ W : World, (Instr.makeSlice 25 (.int .i64 ((xs.length : Int) + 9)) (.int .i64 ((xs.length : Int) + 9))).run Try.prog W =
      .ok (.slice (some ⟨W.heap.size, 0, none⟩) (xs.length + 9) (xs.length + 9)) (W.alloc (.cells (madeCells #[.int .u8 0] (xs.length + 9)) 5)) := fun W => by
    have h := run_mk ei (xs.length + 9) (xs.length + 9) (Nat.le_refl _) (by omega) (by omega) W
    rw [Nat.mul_one] at h
    exact h
  have HO : Hid ((w.alloc (.cells (madeCells #[.int .u8 0] (xs.length + 9)) 5)).ownsRow w.heap.size 5 1 (.slice (some ⟨w.heap.size, 0, none⟩) (xs.length + 9) (xs.length + 9)) (xs.length + 9) (bys (List.replicate (xs.length + 9) 0))) := by
    have h := own_full (e := 5) (size := 1) (base := w.heap.size) w #[.int .u8 0] (xs.length + 9) (by simp only [maxLen]; omega) (Nat.le_refl _)
    rwa [Nat.mul_one, zeros_bys] at h
  have hr1 := hr.alloc (.cells (madeCells #[.int .u8 0] (xs.length + 9)) 5)
  have hnw0 : Nw w (w.alloc (.cells (madeCells #[.int .u8 0] (xs.length + 9)) 5)) := (Kp.refl _ w).alloc _
  go_enter Try.func12, Try.ntmps12
  go_wp2_with (refine wpList_copyv (o := ⟨some 11, _, _, _, _, _⟩) _ rfl (.tmp 9) (.tmp 10) 25 5 rfl ei w.heap.size w.heap.size _ _ _ HO.out rfl _ A _ c _ hr1 rfl (bys_one _) (by omega) ?_; intro w1 hown1 hkp1)
  have hown2 : w1.ownsRow w.heap.size 5 1 (.slice (some ⟨w.heap.size, 0, none⟩) (xs.length + 9) (xs.length + 9)) (xs.length + 9) (bys (lentL xs 0)) := by
    have e : bys xs ++ List.drop (xs.length * 1) (bys (List.replicate (xs.length + 9) 0)) = bys (lentL xs 0) := by
      rw [Nat.mul_one, ← bys_drop, ← bys_app, List.drop_replicate]
      simp [lentL]
    rwa [e] at hown1
  have hnw1 : Nw w w1 := hnw0.trans hkp1 fun i hi e => by omega
  clear hown1 hkp1 hnw0 hr1
  go_loopw [4] (fun i wr => ∃ j : Nat, j ≤ 9 ∧ i = .int .i64 ((xs.length + j : Nat) : Int) ∧ wr.ownsRow w.heap.size 5 1 (.slice (some ⟨w.heap.size, 0, none⟩) (xs.length + 9) (xs.length + 9)) (xs.length + 9) (bys (lentL xs j)) ∧ Nw w wr)
    (fun i _ => xs.length + 9 - (intOf i).toNat)
  case atStart => exact ⟨0, by omega, by go_num, hown2, hnw1⟩
  case round =>
    obtain ⟨j, hj, rfl, hown, hnw⟩ := hrel
    by_cases hlt : j < 9
    · have hc := hown.cellAt (xs.length + j) (by omega)
      rw [bys_at (by rw [lentL_len xs j hj]; omega)] at hc
      have hz := hown.frozenAt (xs.length + j)
      have hst := hown.stored (xs.length + j) (bv 201)
      rw [bys_set, lentL_set xs j hlt] at hst
      have HST := Lib.hid hst
      clear hst
      generalize ((lentL xs j)[xs.length + j]'_ : UInt8) = b0 at hc
      have h1 : ((xs.length + j : Nat) : Int) < (xs.length : Int) + 9 := by omega
      have h2 : (0 : Int) ≤ ((xs.length + j : Nat) : Int) := by omega
      go_wp2
      go_roundw
      case rel => exact ⟨j + 1, by omega, by go_num, HST.out.1, hnw.row hown (Kp.of_row (v := .slice (some ⟨w.heap.size, 0, none⟩) (xs.length + 9) (xs.length + 9)) HST.out.2)⟩
      case measure => simp [intOf]; omega
    · have e : j = 9 := by omega
      subst e
      have h1 : ¬ ((xs.length + 9 : Nat) : Int) < (xs.length : Int) + 9 := by omega
      go_wp2
      go_ret
      rw [lentL_all] at hown
      exact ⟨_, rfl, hown, hnw⟩

end Go.Proofs.Ytcakjjbfhbldeaa
