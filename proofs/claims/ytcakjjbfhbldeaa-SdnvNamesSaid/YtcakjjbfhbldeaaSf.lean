/- Walks of the helpers of layer 1's statements: awake, lent, back, owned, sameNumbers, mine. -/
import Derived.Test.YtcakjjbfhbldeaaSe
set_option linter.unusedVariables false
set_option linter.unusedSimpArgs false
namespace Go.Proofs.Ytcakjjbfhbldeaa
open Go.RowKit

set_option maxRecDepth 100000 in
set_option maxHeartbeats 800000 in
theorem awake_any (w : World) : Calls Try.prog 10 #[] w fun e w' => e = .returned (.bool true) ∧ Nw w w' := by
  have HB := Lib.hid (bytes_any 300 w (by omega) (by omega))
  have e300 : enc 300 = [130, 44] := by
    have h1 : enc (300 : Int).toNat = enc 300 := rfl
    unfold enc hi0
    rw [show (300 : Nat) / 128 = 2 from rfl, dg0_pos (by omega), show (2 : Nat) / 128 = 0 from rfl, dg0_zero]
    rfl
  have s300 : siz (300 : Int).toNat = 2 := by rw [← enc_len, show (300 : Int).toNat = 300 from rfl, e300]; rfl
  have e300' : enc (300 : Int).toNat = [130, 44] := e300
  rw [s300, e300'] at HB
  have HR := Lib.hid (rdS_enc (n := 300) [7] (by omega))
  rw [e300, show siz 300 = 2 from s300] at HR
  clear e300 s300 e300'
  have HL : Hid (∀ W : World, Rd (W.alloc (.cells #[.int .u8 130, .int .u8 44, .int .u8 7] 5)) (fun _ => True) 1 (some ⟨W.heap.size, 0, none⟩) 3 (bys ([130, 44] ++ [7]))) := fun W =>
    (Rd.of_own (own_lit (e := 5) (size := 1) (base := 0) W #[.int .u8 130, .int .u8 44, .int .u8 7] 3 (by simp [maxLen]) rfl (Nat.zero_le _))).more fun _ _ => trivial
  have HC : Hid (∀ W : World, Calls Try.prog 13 #[.slice (some ⟨W.heap.size, 0, none⟩) 3 3] (W.alloc (.cells #[.int .u8 130, .int .u8 44, .int .u8 7] 5)) fun en w' =>
      en = .returned (.tuple #[.int .u64 300, .int .i64 2, .int .i64 0]) ∧ W.alloc (.cells #[.int .u8 130, .int .u8 44, .int .u8 7] 5) = w') := fun W =>
    read_tup _ 3 3 _ _ _ (HL.out W) (by omega) 300 2 0 HR.out
  go_enter Try.func10, Try.ntmps10
  go_wp2_with (first
    | (go_at_call 16; refine HB.out.mono ?_; rintro e w1 ⟨v1, rfl, hown1, hnw1⟩; obtain ⟨B, d, rfl, hd, hrd⟩ := own_read hown1)
    | (go_at_call 13; refine (HC.out _).mono ?_; rintro e w' ⟨rfl, rfl⟩; have hcv := run_cstr Try.underlying25 Try.underlying5 Try.underlying9 (hrd.alloc (.cells #[.int .u8 130, .int .u8 44, .int .u8 7] 5)) d; unfold sb at hcv))
  go_ret
  exact ⟨rfl, (Kp.alloc hnw1 _)⟩

end Go.Proofs.Ytcakjjbfhbldeaa
