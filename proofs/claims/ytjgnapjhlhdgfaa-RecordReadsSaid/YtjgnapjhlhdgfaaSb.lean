/- Bits of bytes and words, as the walks of layer 1 spell them. -/
import Derived.Test.YtjgnapjhlhdgfaaWd
import Derived.Test.YtjgnapjhlhdgfaaSm
import Derived.Laws.BitsAllLaws
import Derived.Lib.VarintBits
set_option linter.unusedVariables false
set_option linter.unusedSimpArgs false
namespace Go.Proofs.Ytjgnapjhlhdgfaa
open Go.RowKit

theorem ret_int {k : IntKind} {a b : Int} (h : a = b) : Ending.returned (.int k a) = .returned (.int k b) := by rw [h]
theorem ret_val {a b : Value} (h : a = b) : Ending.returned a = .returned b := by rw [h]

theorem u8_or128 (x : Int) (h0 : 0 ≤ x) (h1 : x < 256) : bits .or .u8 x 128 = x % 128 + 128 := by
  have key : ∀ a : Fin 256, (a.val ||| 128 : Nat) = a.val % 128 + 128 := by decide +kernel
  rw [u8_or x 128 h0 h1 (by omega) (by omega)]
  have := key ⟨x.toNat, by omega⟩
  simp only at this
  have e : (128 : Int).toNat = 128 := rfl
  rw [e, this]
  omega

theorem pow7 (j : Nat) : (2 : Nat) ^ (7 * j) = 128 ^ j := by rw [Nat.pow_mul]
theorem div_pow7 (n : Int) (j : Nat) (h0 : 0 ≤ n) : n / 2 ^ (7 * j) = ((n.toNat / 128 ^ j : Nat) : Int) := by
  obtain ⟨m, rfl⟩ := Int.eq_ofNat_of_zero_le h0
  rw [Int.toNat_natCast, ← pow7]
  simp
theorem dig_bits (n : Int) (j : Nat) (h0 : 0 ≤ n) : (.int .u8 (bits .or .u8 (n / 2 ^ (7 * j) % 256) 128) : Value) = bv (mk8 (n.toNat / 128 ^ j % 128)) := by
  rw [u8_or128 _ (by omega) (by omega), div_pow7 n j h0]
  unfold bv
  rw [mk8_toNat (Nat.mod_lt _ (by omega))]
  congr 1
  omega
theorem low_bits (n : Int) (h0 : 0 ≤ n) : (.int .u8 (bits .and .u8 (n % 256) 127) : Value) = bv (UInt8.ofNat (n.toNat % 128)) := by
  rw [u8_and127 _ (by omega) (by omega)]
  unfold bv
  congr 1
  simp only [UInt8.toNat_ofNat']
  omega
/-! ### a byte laid on a number whose low seven bits are zero -/
theorem or_low0 (v c : Nat) (hc : c < 128) (hv : 128 * v < 18446744073709551616) : bits .or .u64 ((128 * v : Nat) : Int) (c : Int) = ((128 * v + c : Nat) : Int) := by
  have e7 : (2 : Int) ^ 7 = 128 := by decide
  have e64 : (2 : Int) ^ 64 = 18446744073709551616 := by decide
  have h := bits_join .u64 64 (by decide) wraps_u64 7 ((128 * v : Nat) : Int) (c : Int) (by omega) (by rw [e7]; omega) (by rw [e64]; omega) (by omega) (by rw [e7]; omega) (by rw [e64]; omega)
  rw [h]
  omega
theorem or_low (v c : Nat) (hc : c < 128) (hv : v < 144115188075855872) : bits .or .u64 (128 * (v : Int)) (c : Int) = ((128 * v + c : Nat) : Int) := by
  have h := or_low0 v c hc (by omega)
  rwa [show ((128 * v : Nat) : Int) = 128 * (v : Int) from by omega] at h
theorem wrapU64 (x : Int) (h0 : 0 ≤ x) (h1 : x < 18446744073709551616) : IntKind.u64.wrap x = x := by
  rw [IntKind.wrap_u64]
  omega
theorem and_low (b : Nat) (h : b < 256) (h' : ¬ b < 128) : bits .and .u8 (b : Int) 127 = ((b - 128 : Nat) : Int) := by
  rw [u8_and127 _ (by omega) (by omega)]
  omega
end Go.Proofs.Ytjgnapjhlhdgfaa
