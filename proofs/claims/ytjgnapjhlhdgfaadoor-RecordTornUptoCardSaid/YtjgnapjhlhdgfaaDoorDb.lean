/- Frames: numbers of four bytes. Frames: a number by four bytes. -/
import Derived.Test.YtjgnapjhlhdgfaaDoorCc
import Derived.Test.YtjgnapjhlhdgfaaDoorRz
set_option linter.unusedVariables false
set_option linter.unusedSimpArgs false
namespace Go.Proofs.YtjgnapjhlhdgfaaDoor
open Go.RowKit

/-- What four bytes say. -/
def v4 (xs : List UInt8) : Nat := (xs.getD 0 0).toNat * 16777216 + (xs.getD 1 0).toNat * 65536 + (xs.getD 2 0).toNat * 256 + (xs.getD 3 0).toNat

set_option maxRecDepth 100000 in
set_option maxHeartbeats 1600000 in
theorem refvalue_any (A : Option Addr) (n c : Nat) (ok : Nat → Prop) (xs : List UInt8) (w : World) (hr : Rd w ok 1 A n (bys xs)) (hn : 4 ≤ n) :
    Calls Tryd.prog 47 #[.slice A n c] w fun e w' => e = .returned (.int .i64 (v4 xs : Int)) ∧ Nw w w' := by
  have hl : xs.length = n := by have := hr.len; rwa [bys_len] at this
  obtain ⟨ad, rfl, _, h0⟩ := hr.byte (k := 0) (by omega)
  obtain ⟨ad1, e1, _, h1⟩ := hr.byte (k := 1) (by omega)
  obtain ⟨ad2, e2, _, h2⟩ := hr.byte (k := 2) (by omega)
  obtain ⟨ad3, e3, _, h3⟩ := hr.byte (k := 3) (by omega)
  simp only [Option.some.injEq] at e1 e2 e3
  subst e1 e2 e3
  rw [add_zero_] at h0
  have h1 : w.cell? ⟨ad.block, ad.off + 1, none⟩ = _ := h1
  have h2 : w.cell? ⟨ad.block, ad.off + 2, none⟩ = _ := h2
  have h3 : w.cell? ⟨ad.block, ad.off + 3, none⟩ = _ := h3
  have hv : Hid (v4 xs = xs[0].toNat * 16777216 + xs[1].toNat * 65536 + xs[2].toNat * 256 + xs[3].toNat) := by
    show _ = _
    unfold v4
    rw [List.getD_eq_getElem?_getD, List.getD_eq_getElem?_getD, List.getD_eq_getElem?_getD, List.getD_eq_getElem?_getD, List.getElem?_eq_getElem, List.getElem?_eq_getElem, List.getElem?_eq_getElem, List.getElem?_eq_getElem]
    rfl
  have b0 := xs[0].toNat_lt
  have b1 := xs[1].toNat_lt
  have b2 := xs[2].toNat_lt
  have b3 := xs[3].toNat_lt
  generalize xs[0].toNat = x0 at *
  generalize xs[1].toNat = x1 at *
  generalize xs[2].toNat = x2 at *
  generalize xs[3].toNat = x3 at *
  have k1 : (1 : Int) < (n : Int) := by omega
  have k2 : (2 : Int) < (n : Int) := by omega
  have k3 : (3 : Int) < (n : Int) := by omega
  have k0 : (0 : Int) < (n : Int) := by omega
  clear hr hl
  go_enter Tryd.func47, Tryd.ntmps47
  go_wp2_with fail
  go_big_quiet (fail)
  go_wp2_with fail
  go_ret
  exact ⟨congrArg Ending.returned (vint (by rw [hv.out]; omega)), (Kp.refl _ _).drewN _⟩

set_option maxRecDepth 100000 in
set_option maxHeartbeats 1600000 in
theorem value_any (A : Option Addr) (n c : Nat) (ok : Nat → Prop) (xs : List UInt8) (w : World) (hr : Rd w ok 1 A n (bys xs)) (hn : 4 ≤ n) :
    Calls Tryd.prog 35 #[.slice A n c] w fun e w' => e = .returned (.int .u32 (v4 xs : Int)) ∧ Nw w w' := by
  have hl : xs.length = n := by have := hr.len; rwa [bys_len] at this
  obtain ⟨ad, rfl, _, h0⟩ := hr.byte (k := 0) (by omega)
  obtain ⟨ad1, e1, _, h1⟩ := hr.byte (k := 1) (by omega)
  obtain ⟨ad2, e2, _, h2⟩ := hr.byte (k := 2) (by omega)
  obtain ⟨ad3, e3, _, h3⟩ := hr.byte (k := 3) (by omega)
  simp only [Option.some.injEq] at e1 e2 e3
  subst e1 e2 e3
  rw [add_zero_] at h0
  have h1 : w.cell? ⟨ad.block, ad.off + 1, none⟩ = _ := h1
  have h2 : w.cell? ⟨ad.block, ad.off + 2, none⟩ = _ := h2
  have h3 : w.cell? ⟨ad.block, ad.off + 3, none⟩ = _ := h3
  have hv : Hid (v4 xs = xs[0].toNat * 16777216 + xs[1].toNat * 65536 + xs[2].toNat * 256 + xs[3].toNat) := by
    show _ = _
    unfold v4
    rw [List.getD_eq_getElem?_getD, List.getD_eq_getElem?_getD, List.getD_eq_getElem?_getD, List.getD_eq_getElem?_getD, List.getElem?_eq_getElem, List.getElem?_eq_getElem, List.getElem?_eq_getElem, List.getElem?_eq_getElem]
    rfl
  have b0 := xs[0].toNat_lt
  have b1 := xs[1].toNat_lt
  have b2 := xs[2].toNat_lt
  have b3 := xs[3].toNat_lt
  generalize xs[0].toNat = x0 at *
  generalize xs[1].toNat = x1 at *
  generalize xs[2].toNat = x2 at *
  generalize xs[3].toNat = x3 at *
  have k1 : (1 : Int) < (n : Int) := by omega
  have k2 : (2 : Int) < (n : Int) := by omega
  have k3 : (3 : Int) < (n : Int) := by omega
  have k0 : (0 : Int) < (n : Int) := by omega
  clear hr hl
  go_enter Tryd.func35, Tryd.ntmps35
  go_wp2_with fail
  go_big_quiet (fail)
  go_wp2_with fail
  go_ret
  refine ⟨congrArg Ending.returned (vint ?_), (Kp.refl _ _).drewN _⟩
  have o1 := u32_or_nat (x0 * 16777216) (x1 * 65536) (by omega) (by omega)
  have p1 : x0 * 16777216 ||| x1 * 65536 = x0 * 16777216 + x1 * 65536 := by
    have := Nat.two_pow_add_eq_or_of_lt (i := 24) (b := x1 * 65536) (by omega) x0
    rw [Nat.mul_comm x0]
    exact this.symm
  rw [p1] at o1
  have o2 := u32_or_nat (x0 * 16777216 + x1 * 65536) (x2 * 256) (by omega) (by omega)
  have p2 : (x0 * 16777216 + x1 * 65536) ||| x2 * 256 = x0 * 16777216 + x1 * 65536 + x2 * 256 := by
    have := Nat.two_pow_add_eq_or_of_lt (i := 16) (b := x2 * 256) (by omega) (x0 * 256 + x1)
    rw [show x0 * 16777216 + x1 * 65536 = 2 ^ 16 * (x0 * 256 + x1) from by omega]
    exact this.symm
  rw [p2] at o2
  have o3 := u32_or_nat (x0 * 16777216 + x1 * 65536 + x2 * 256) x3 (by omega) (by omega)
  have p3 : (x0 * 16777216 + x1 * 65536 + x2 * 256) ||| x3 = x0 * 16777216 + x1 * 65536 + x2 * 256 + x3 := by
    have := Nat.two_pow_add_eq_or_of_lt (i := 8) (b := x3) (by omega) (x0 * 65536 + x1 * 256 + x2)
    rw [show x0 * 16777216 + x1 * 65536 + x2 * 256 = 2 ^ 8 * (x0 * 65536 + x1 * 256 + x2) from by omega]
    exact this.symm
  rw [p3] at o3
  have c1 : ((x0 * 16777216 : Nat) : Int) = (x0 : Int) * 16777216 := Int.natCast_mul x0 16777216
  have c2 : ((x1 * 65536 : Nat) : Int) = (x1 : Int) * 65536 := Int.natCast_mul x1 65536
  have c3 : ((x2 * 256 : Nat) : Int) = (x2 : Int) * 256 := Int.natCast_mul x2 256
  rw [hv.out, ← o3, ← o2, ← o1, c1, c2, c3]

end Go.Proofs.YtjgnapjhlhdgfaaDoor

namespace Go.Proofs.YtjgnapjhlhdgfaaDoor
open Go.RowKit

/-- A number by four bytes. -/
def f4 (n : Nat) : List UInt8 := [UInt8.ofNat (n / 16777216), UInt8.ofNat (n / 65536), UInt8.ofNat (n / 256), UInt8.ofNat n]

theorem bv_of (x : Int) (m : Nat) (h : x = ((m % 256 : Nat) : Int)) : (.int .u8 x : Value) = bv (UInt8.ofNat m) := by
  unfold bv
  rw [UInt8.toNat_ofNat', h]
theorem f4_bys (n : Nat) (h : n < 4294967296) : bys (f4 n) = [.int .u8 ((n : Int) / 16777216), .int .u8 ((n : Int) / 65536 % 256), .int .u8 ((n : Int) / 256 % 256), .int .u8 ((n : Int) % 256)] := by
  rw [bv_of ((n : Int) / 16777216) (n / 16777216) (by omega), bv_of ((n : Int) / 65536 % 256) (n / 65536) (by omega), bv_of ((n : Int) / 256 % 256) (n / 256) (by omega), bv_of ((n : Int) % 256) n (by omega)]
  rfl

set_option maxRecDepth 100000 in
set_option maxHeartbeats 1600000 in
theorem reffour_any (v : Value) (n : Nat) (base k : Nat) (xs : List UInt8) (w : World) (h1 : n < 4294967296)
    (hown : w.ownsRow base 5 1 v k (bys xs)) (hbase : base ≤ w.heap.size) (hk : k ≤ 140737488350000) :
    Calls Tryd.prog 28 #[v, .int .i64 (n : Int)] w fun e w' => ∃ v', e = .returned v' ∧ w'.ownsRow base 5 1 v' (k + 4) (bys (xs ++ f4 n)) ∧
      Kp (fun g => v.ownBlock = some g) w w' ∧ OwnAt w v v' := by
  have ei := Tryd.elU8
  go_enter Tryd.func28, Tryd.ntmps28
  go_wp2_with (at_builtin; (refine wpList_app1 w _ _ rfl (.tmp 5) (.tmp 17) 22 5 rfl ei base _ _ _ hown rfl 4 4 rfl rfl (by simp [Value.oneCell']) (by simp only [maxLen]; omega) (by omega) (by omega) ?_; intro v2 w2 hown2 hkp2 hat2))
  go_ret
  exact ⟨v2, rfl, by rw [bys_app, f4_bys n h1]; exact hown2, hkp2, hat2⟩

set_option maxRecDepth 100000 in
set_option maxHeartbeats 1600000 in
theorem four_any (v : Value) (n : Nat) (base k : Nat) (xs : List UInt8) (w : World) (h1 : n < 4294967296)
    (hown : w.ownsRow base 5 1 v k (bys xs)) (hbase : base ≤ w.heap.size) (hk : k ≤ 140737488350000) :
    Calls Tryd.prog 29 #[v, .int .u32 (n : Int)] w fun e w' => ∃ v', e = .returned v' ∧ w'.ownsRow base 5 1 v' (k + 4) (bys (xs ++ f4 n)) ∧
      Kp (fun g => v.ownBlock = some g) w w' ∧ OwnAt w v v' := by
  have ei := Tryd.elU8
  go_enter Tryd.func29, Tryd.ntmps29
  go_wp2_with (at_builtin; (refine wpList_app1 w _ _ rfl (.tmp 5) (.tmp 17) 22 5 rfl ei base _ _ _ hown rfl 4 4 rfl rfl (by simp [Value.oneCell']) (by simp only [maxLen]; omega) (by omega) (by omega) ?_; intro v2 w2 hown2 hkp2 hat2))
  go_ret
  exact ⟨v2, rfl, by rw [bys_app, f4_bys n h1]; exact hown2, hkp2, hat2⟩

end Go.Proofs.YtjgnapjhlhdgfaaDoor
