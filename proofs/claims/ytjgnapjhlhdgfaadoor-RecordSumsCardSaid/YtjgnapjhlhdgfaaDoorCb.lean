/- The check sum: the document's walk and the program's. The program's table lies where its variable is. -/
import Derived.Test.YtjgnapjhlhdgfaaDoorRows
import Derived.Test.YtjgnapjhlhdgfaaDoorCa
import Derived.Laws.BitsAll
set_option linter.unusedVariables false
set_option linter.unusedSimpArgs false
namespace Go.Proofs.YtjgnapjhlhdgfaaDoor
open Go.RowKit

set_option maxRecDepth 100000 in
set_option maxHeartbeats 1600000 in
theorem refsum_any (A : Option Addr) (n c : Nat) (ok : Nat → Prop) (l : List UInt8) (w : World) (hr : Rd w ok 1 A n (bys l)) (hn : n ≤ 9223372036854775806) :
    Calls Tryd.prog 9 #[.slice A n c] w fun e w' => e = .returned (.int .u32 (Crc.sum l : Nat)) ∧ w = w' := by
  have hl : l.length = n := by have := hr.len; rwa [bys_len] at this
  subst hl
  go_enter Tryd.func9, Tryd.ntmps9
  go_wp2
  go_loop [3, 4] (fun s i => ∃ (k c : Nat), k ≤ l.length ∧ i = .int .i64 k ∧ s = .int .u32 c ∧ c < 4294967296 ∧ Hid (c = Crc.run 4294967295 (l.take k))) (fun _ i => l.length - (intOf i).toNat)
  case atStart => exact ⟨0, 4294967295, by omega, rfl, rfl, by omega, rfl⟩
  case round =>
    obtain ⟨k, c, hk, rfl, rfl, hc, hrun⟩ := hrel
    by_cases hlt : k < l.length
    · obtain ⟨ad, rfl, _, hcell⟩ := hr.byte hlt
      have hx := l[k].toNat_lt
      have htk : Hid (Crc.run 4294967295 (l.take (k + 1)) = Crc.step c l[k].toNat) := by
        have e := hrun.out
        show _ = _
        rw [List.take_succ_eq_append_getElem hlt, Crc.run_snoc, e]
      generalize l[k].toNat = x at *
      have h1 : (k : Int) < (l.length : Int) := by omega
      have h0 : (0 : Int) ≤ (k : Int) := by omega
      have hx' : x < 4294967296 := by omega
      have hcx : c ^^^ x < 4294967296 := Nat.xor_lt_two_pow (n := 32) hc hx'
      have hbx : bits .xor .u32 (c : Int) (x : Int) = ((c ^^^ x : Nat) : Int) := u32_xor_nat c x hc hx'
      have h8 : Hid (Crc.fN (8 - 0) (c ^^^ x) = Crc.step c x) := rfl
      generalize c ^^^ x = cx at *
      go_wp2
      clear hbx
      go_loop [3, 5] (fun s i => ∃ (q d : Nat), q ≤ 8 ∧ i = .int .i64 q ∧ s = .int .u32 d ∧ d < 4294967296 ∧ Hid (Crc.fN (8 - q) d = Crc.step c x)) (fun _ i => 8 - (intOf i).toNat)
      case atStart => exact ⟨0, cx, by omega, rfl, rfl, hcx, h8⟩
      case round =>
        obtain ⟨q, d, hq, rfl, rfl, hd, hfn⟩ := hrel
        by_cases hlt2 : q < 8
        · have hfs : Hid (Crc.fN (8 - (q + 1)) (Crc.f1 d) = Crc.step c x) := by
            have e := hfn.out
            rw [show 8 - q = 8 - (q + 1) + 1 from by omega] at e
            exact e
          have hq8 : (q : Int) < 8 := by omega
          have hd1 : Crc.f1 d < 4294967296 := Crc.f1_lt hd
          have HD1 := Lib.hid hd1
          clear hd1
          rcases Nat.mod_two_eq_zero_or_one d with hm | hm
          · have ht : ((d : Int) % 2 == 1) = false := by rw [beq_eq_false_iff_ne]; omega
            have hf : Hid (((d : Int) / 2) = ((Crc.f1 d : Nat) : Int)) := by show _ = _; unfold Crc.f1; rw [if_neg (by omega)]; omega
            clear hm
            go_wp2
            go_round
            case rel => exact ⟨q + 1, Crc.f1 d, by omega, by go_num, by rw [hf.out], HD1.out, hfs⟩
            case measure => simp [intOf]; omega
          · have ht : ((d : Int) % 2 == 1) = true := by rw [beq_iff_eq]; omega
            have hd2 : (d : Int) / 2 < 4294967296 := by omega
            have hd3 : 0 ≤ (d : Int) / 2 := by omega
            have hf : bits .xor .u32 ((d : Int) / 2) 3988292384 = ((Crc.f1 d : Nat) : Int) := by
              have e := u32_xor_nat (d / 2) 3988292384 (by omega) (by omega)
              rw [show ((d / 2 : Nat) : Int) = (d : Int) / 2 from by omega] at e
              have e2 : Crc.f1 d = d / 2 ^^^ 3988292384 := by unfold Crc.f1 Crc.poly; rw [if_pos hm]
              rw [e2]
              exact e
            clear hm hd2 hd3
            go_wp2
            go_round
            case rel => exact ⟨q + 1, Crc.f1 d, by omega, by go_num, rfl, HD1.out, hfs⟩
            case measure => simp [intOf]; omega
        · have hq8 : q = 8 := by omega
          subst hq8
          have hs : Hid (d = Crc.step c x) := hfn.out
          have h88 : ¬ (((8 : Nat) : Int) < 8) := by omega
          go_wp2
          go_round
          case rel => exact ⟨k + 1, d, by omega, by go_num, rfl, hd, by show _ = _; rw [htk.out, ← hs.out]⟩
          case measure => simp [intOf]; omega
    · have hkl : k = l.length := by omega
      subst hkl
      have hs : Hid (c ^^^ 4294967295 = Crc.sum l) := by
        have e := hrun.out
        rw [List.take_length] at e
        show _ = _
        rw [e]
        rfl
      have h1 : ¬ ((l.length : Nat) : Int) < (l.length : Int) := by omega
      have hbx : bits .xor .u32 (c : Int) 4294967295 = ((Crc.sum l : Nat) : Int) := by
        rw [← hs.out]
        exact u32_xor_nat c 4294967295 hc (by omega)
      generalize hS : Crc.sum l = S at *
      have HS := Lib.hid hS
      clear hS
      go_wp2
      go_ret
      exact ⟨by rw [HS.out]; rfl, rfl⟩

/-- The program's table stands in its variable. -/
def TabOk (w : World) : Prop := ∀ k, k < 16 → w.cell? ⟨0, k, none⟩ = some (.int .u32 ((Crc.tab.getD k 0 : Nat) : Int))
theorem and15 (s : Nat) : s &&& 15 = s % 16 := Nat.and_two_pow_sub_one_eq_mod s 4
theorem tab_lt : ∀ k, k < 16 → Crc.tab.getD k 0 < 4294967296 := by decide
theorem t4_lt {s : Nat} (h : s < 4294967296) : Crc.t4 s < 4294967296 := by rw [← Crc.fN4]; exact Crc.fN_lt 4 h

set_option maxRecDepth 100000 in
set_option maxHeartbeats 1600000 in
theorem rsum_any (A : Option Addr) (n c : Nat) (ok : Nat → Prop) (l : List UInt8) (w : World) (hT : TabOk w) (hr : Rd w ok 1 A n (bys l)) (hn : n ≤ 9223372036854775806) :
    Calls Tryd.prog 10 #[.slice A n c] w fun e w' => e = .returned (.int .u32 (Crc.sum l : Nat)) ∧ w = w' := by
  have hl : l.length = n := by have := hr.len; rwa [bys_len] at this
  subst hl
  have HT := Lib.hid hT
  clear hT
  go_enter Tryd.func10, Tryd.ntmps10
  go_wp2
  go_loop [3, 8] (fun s i => ∃ (k c : Nat), k ≤ l.length ∧ i = .int .i64 k ∧ s = .int .u32 c ∧ c < 4294967296 ∧ Hid (c = Crc.run 4294967295 (l.take k))) (fun _ i => l.length - (intOf i).toNat)
  case atStart => exact ⟨0, 4294967295, by omega, rfl, rfl, by omega, rfl⟩
  case round =>
    obtain ⟨k, c, hk, rfl, rfl, hc, hrun⟩ := hrel
    by_cases hlt : k < l.length
    · obtain ⟨ad, rfl, _, hcell⟩ := hr.byte hlt
      have hx := l[k].toNat_lt
      have htk : Hid (Crc.run 4294967295 (l.take (k + 1)) = Crc.stepT c l[k].toNat) := by
        have e := hrun.out
        show _ = _
        rw [List.take_succ_eq_append_getElem hlt, Crc.run_snoc, Crc.step_eq, e]
      generalize l[k].toNat = x at *
      have h1 : (k : Int) < (l.length : Int) := by omega
      have h0 : (0 : Int) ≤ (k : Int) := by omega
      have hx' : x < 4294967296 := by omega
      have hcx : c ^^^ x < 4294967296 := Nat.xor_lt_two_pow (n := 32) hc hx'
      have hbx : bits .xor .u32 (c : Int) (x : Int) = ((c ^^^ x : Nat) : Int) := u32_xor_nat c x hc hx'
      have hst : Hid (Crc.stepT c x = Crc.t4 (Crc.t4 (c ^^^ x))) := rfl
      generalize c ^^^ x = s at *
      have hb1 : bits .and .u32 (s : Int) 15 = ((s % 16 : Nat) : Int) := by rw [← and15]; exact u32_and_nat s 15 hcx (by omega)
      have hc1 := HT.out (s % 16) (Nat.mod_lt _ (by omega))
      have hl1 := tab_lt (s % 16) (Nat.mod_lt _ (by omega))
      have hb2 : bits .xor .u32 ((Crc.tab.getD (s % 16) 0 : Nat) : Int) ((s : Int) / 16) = ((Crc.t4 s : Nat) : Int) := by
        rw [show (s : Int) / 16 = ((s / 16 : Nat) : Int) from by omega]
        exact u32_xor_nat _ _ hl1 (by omega)
      have ht1 := t4_lt hcx
      have hm1 : s % 16 < 16 := Nat.mod_lt _ (by omega)
      generalize Crc.t4 s = s2 at *
      generalize Crc.tab.getD (s % 16) 0 = y1 at *
      have hb3 : bits .and .u32 (s2 : Int) 15 = ((s2 % 16 : Nat) : Int) := by rw [← and15]; exact u32_and_nat s2 15 ht1 (by omega)
      have hc2 := HT.out (s2 % 16) (Nat.mod_lt _ (by omega))
      have hl2 := tab_lt (s2 % 16) (Nat.mod_lt _ (by omega))
      have hb4 : bits .xor .u32 ((Crc.tab.getD (s2 % 16) 0 : Nat) : Int) ((s2 : Int) / 16) = ((Crc.t4 s2 : Nat) : Int) := by
        rw [show (s2 : Int) / 16 = ((s2 / 16 : Nat) : Int) from by omega]
        exact u32_xor_nat _ _ hl2 (by omega)
      have ht2 := t4_lt ht1
      have hm2 : s2 % 16 < 16 := Nat.mod_lt _ (by omega)
      generalize Crc.t4 s2 = s3 at *
      generalize Crc.tab.getD (s2 % 16) 0 = y2 at *
      generalize s % 16 = m1 at *
      generalize s2 % 16 = m2 at *
      have g1 : (m1 : Int) < 16 := by omega
      have g2 : (m2 : Int) < 16 := by omega
      go_wp2
      go_round
      case rel => exact ⟨k + 1, s3, by omega, by go_num, rfl, ht2, by show _ = _; rw [htk.out, hst.out]⟩
      case measure => simp [intOf]; omega
    · have hkl : k = l.length := by omega
      subst hkl
      have hs : Hid (c ^^^ 4294967295 = Crc.sum l) := by
        have e := hrun.out
        rw [List.take_length] at e
        show _ = _
        rw [e]
        rfl
      have h1 : ¬ ((l.length : Nat) : Int) < (l.length : Int) := by omega
      have hbx : bits .xor .u32 IntKind.u32.max (c : Int) = ((Crc.sum l : Nat) : Int) := by
        rw [← hs.out, Nat.xor_comm, show IntKind.u32.max = ((4294967295 : Nat) : Int) from by decide]
        exact u32_xor_nat 4294967295 c (by omega) hc
      generalize hS : Crc.sum l = S at *
      have HS := Lib.hid hS
      clear hS
      go_wp2
      go_ret
      exact ⟨by rw [HS.out]; rfl, rfl⟩

end Go.Proofs.YtjgnapjhlhdgfaaDoor
