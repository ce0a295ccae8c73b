/- The check sum: bit by bit, by a table of four bits; turned bytes turn it. Plain. The check sum: the document's walk and the program's. The program's table lies where its variable is. Records: the law RecordSums. -/
import Derived.Test.YtjgnapjhlhdgfaaDoorWd
import Derived.Test.YtjgnapjhlhdgfaaDoorRows
import Derived.Laws.BitsAll
import Derived.Test.YtjgnapjhlhdgfaaDoorRm
set_option linter.unusedVariables false
set_option linter.unusedSimpArgs false
namespace Go.Proofs.YtjgnapjhlhdgfaaDoor

namespace Crc
theorem canR {a b c : Nat} (h : a ^^^ c = b ^^^ c) : a = b := by
  have := congrArg (· ^^^ c) h
  simpa [Nat.xor_assoc] using this
theorem canL {a b c : Nat} (h : c ^^^ a = c ^^^ b) : a = b := canR (c := c) (by rw [Nat.xor_comm a, Nat.xor_comm b]; exact h)
def poly : Nat := 3988292384
def f1 (c : Nat) : Nat := if c % 2 = 1 then (c / 2) ^^^ poly else c / 2
def fN : Nat → Nat → Nat
  | 0, c => c
  | n + 1, c => fN n (f1 c)
def tab : List Nat := [0, 498536548, 997073096, 651767980, 1994146192, 1802195444, 1303535960, 1342533948, 3988292384, 4027552580, 3604390888, 3412177804, 2607071920, 2262029012, 2685067896, 3183342108]
def t4 (s : Nat) : Nat := tab.getD (s % 16) 0 ^^^ (s / 16)
def step (s x : Nat) : Nat := fN 8 (s ^^^ x)
def stepT (s x : Nat) : Nat := t4 (t4 (s ^^^ x))
def run (s : Nat) (l : List UInt8) : Nat := l.foldl (fun s x => step s x.toNat) s
def sum (l : List UInt8) : Nat := run 4294967295 l ^^^ 4294967295

theorem f1_lt {c : Nat} (h : c < 4294967296) : f1 c < 4294967296 := by
  unfold f1 poly
  split
  · exact Nat.xor_lt_two_pow (n := 32) (by omega) (by omega)
  · omega
theorem fN_lt : ∀ (n : Nat) {c : Nat}, c < 4294967296 → fN n c < 4294967296
  | 0, _, h => h
  | n + 1, _, h => fN_lt n (f1_lt h)
theorem fN_add : ∀ (n m c : Nat), fN (n + m) c = fN m (fN n c)
  | 0, m, c => by rw [Nat.zero_add]; rfl
  | n + 1, m, c => by rw [Nat.add_right_comm]; exact fN_add n m (f1 c)
theorem mod2_xor (a b : Nat) : (a ^^^ b) % 2 = (a % 2 + b % 2) % 2 := by
  have h := Nat.testBit_xor (x := a) (y := b) (i := 0)
  simp only [Nat.testBit_zero] at h
  rcases Nat.mod_two_eq_zero_or_one a with ha | ha <;> rcases Nat.mod_two_eq_zero_or_one b with hb | hb <;> rcases Nat.mod_two_eq_zero_or_one (a ^^^ b) with hc | hc <;> simp [ha, hb, hc] at h ⊢
theorem f1_xor (a b : Nat) : f1 (a ^^^ b) = f1 a ^^^ f1 b := by
  unfold f1
  rw [mod2_xor, Nat.xor_div_two]
  rcases Nat.mod_two_eq_zero_or_one a with ha | ha <;> rcases Nat.mod_two_eq_zero_or_one b with hb | hb <;> simp [ha, hb]
  · rw [Nat.xor_assoc]
  · rw [Nat.xor_assoc, Nat.xor_assoc, Nat.xor_comm (b / 2)]
  · have : a / 2 ^^^ poly ^^^ (b / 2 ^^^ poly) = (a / 2 ^^^ b / 2) ^^^ (poly ^^^ poly) := by
      rw [Nat.xor_assoc, Nat.xor_assoc, ← Nat.xor_assoc poly, Nat.xor_comm poly, Nat.xor_assoc]
    rw [this, Nat.xor_self, Nat.xor_zero]
theorem fN_xor : ∀ (n a b : Nat), fN n (a ^^^ b) = fN n a ^^^ fN n b
  | 0, _, _ => rfl
  | n + 1, a, b => by
    show fN n (f1 (a ^^^ b)) = _
    rw [f1_xor, fN_xor n]
    rfl
theorem fN_shift : ∀ (n m : Nat), fN n (m * 2 ^ n) = m
  | 0, m => by simp [fN]
  | n + 1, m => by
    have : f1 (m * 2 ^ (n + 1)) = m * 2 ^ n := by
      unfold f1
      rw [Nat.pow_succ, ← Nat.mul_assoc, if_neg (by omega), Nat.mul_div_cancel _ (by omega)]
    show fN n (f1 _) = m
    rw [this, fN_shift n]
theorem split16 (c : Nat) : (c % 16) ^^^ (c / 16 * 16) = c := by
  apply Nat.eq_of_testBit_eq
  intro i
  rw [Nat.testBit_xor, show (16 : Nat) = 2 ^ 4 from rfl, Nat.testBit_mod_two_pow, Nat.testBit_mul_two_pow, Nat.testBit_div_two_pow]
  by_cases h : i < 4
  · have h' : ¬ 4 ≤ i := by omega
    simp [h, h']
  · have h' : 4 ≤ i := by omega
    have e : i - 4 + 4 = i := by omega
    have e2 : 4 + (i - 4) = i := by omega
    simp [h, h', e, e2]
theorem tab_eq : ∀ k, k < 16 → tab.getD k 0 = fN 4 k := by decide
theorem fN4 (c : Nat) : fN 4 c = t4 c := by
  have h := fN_xor 4 (c % 16) (c / 16 * 16)
  rw [split16, fN_shift 4 (c / 16), ← tab_eq _ (Nat.mod_lt _ (by omega))] at h
  exact h
theorem step_eq (s x : Nat) : stepT s x = step s x := by
  unfold stepT step
  rw [← fN4, ← fN4, ← fN_add]

theorem f1_inj {a b : Nat} (ha : a < 4294967296) (hb : b < 4294967296) (h : f1 a = f1 b) : a = b := by
  have top : ∀ c, c < 4294967296 → (f1 c).testBit 31 = (c % 2 == 1) := by
    intro c hc
    unfold f1
    have h1 : (c / 2).testBit 31 = false := Nat.testBit_lt_two_pow (by omega)
    have h2 : poly.testBit 31 = true := by decide
    split
    · rw [Nat.testBit_xor, h1, h2]
      simp [*]
    · rw [h1]
      simp [*]
  have e := top a ha
  rw [h, top b hb] at e
  have e2 : a % 2 = b % 2 := by
    rcases Nat.mod_two_eq_zero_or_one a with h1 | h1 <;> rcases Nat.mod_two_eq_zero_or_one b with h2 | h2 <;> simp [h1, h2] at e ⊢
  unfold f1 at h
  rw [e2] at h
  have e3 : a / 2 = b / 2 := by
    split at h
    · exact canR h
    · exact h
  omega
theorem fN_inj : ∀ (n : Nat) {a b : Nat}, a < 4294967296 → b < 4294967296 → fN n a = fN n b → a = b
  | 0, _, _, _, _, h => h
  | n + 1, _, _, ha, hb, h => f1_inj ha hb (fN_inj n (f1_lt ha) (f1_lt hb) h)
theorem step_lt {s x : Nat} (hs : s < 4294967296) (hx : x < 256) : step s x < 4294967296 := fN_lt 8 (Nat.xor_lt_two_pow (n := 32) hs (by omega))
theorem step_inj {s s' x x' : Nat} (hs : s < 4294967296) (hs' : s' < 4294967296) (hx : x < 256) (hx' : x' < 256) (h : step s x = step s' x') : s ^^^ x = s' ^^^ x' :=
  fN_inj 8 (Nat.xor_lt_two_pow (n := 32) hs (by omega)) (Nat.xor_lt_two_pow (n := 32) hs' (by omega)) h
theorem run_lt : ∀ (l : List UInt8) {s : Nat}, s < 4294967296 → run s l < 4294967296
  | [], _, h => h
  | x :: l, _, h => run_lt l (step_lt h x.toNat_lt)
theorem run_inj : ∀ (l : List UInt8) {s s' : Nat}, s < 4294967296 → s' < 4294967296 → run s l = run s' l → s = s'
  | [], _, _, _, _, h => h
  | x :: l, s, s', hs, hs', h => by
    have h1 := run_inj l (step_lt hs x.toNat_lt) (step_lt hs' x.toNat_lt) h
    exact canR (step_inj hs hs' x.toNat_lt x.toNat_lt h1)
theorem run_app (a b : List UInt8) (s : Nat) : run s (a ++ b) = run (run s a) b := by simp [run, List.foldl_append]
theorem run_snoc (a : List UInt8) (x : UInt8) (s : Nat) : run s (a ++ [x]) = step (run s a) x.toNat := by simp [run]
/-- One byte turned: the sum is turned just then. -/
theorem sum_set (l : List UInt8) (k : Nat) (hk : k < l.length) (x : UInt8) : (sum (l.set k x) = sum l) ↔ x = l[k] := by
  have e : l.set k x = l.take k ++ x :: l.drop (k + 1) := List.set_eq_take_append_cons_drop .. |>.trans (by rw [if_pos hk])
  have e2 : l = l.take k ++ l[k] :: l.drop (k + 1) := by rw [← List.drop_eq_getElem_cons hk, List.take_append_drop]
  constructor
  · intro h
    unfold sum at h
    have h1 : run 4294967295 (l.set k x) = run 4294967295 l := canR h
    rw [e] at h1
    have h2 : run 4294967295 l = run 4294967295 (l.take k ++ l[k] :: l.drop (k + 1)) := by rw [← e2]
    rw [h2, run_app, run_app] at h1
    have hs := run_lt (l.take k) (s := 4294967295) (by omega)
    have h3 := run_inj (l.drop (k + 1)) (step_lt hs x.toNat_lt) (step_lt hs l[k].toNat_lt) h1
    have h4 := step_inj hs hs x.toNat_lt l[k].toNat_lt h3
    exact UInt8.toNat.inj (canL h4)
  · intro h
    rw [h, List.set_getElem_self]
theorem sum_lt (l : List UInt8) : sum l < 4294967296 := Nat.xor_lt_two_pow (n := 32) (run_lt l (by omega)) (by omega)
end Crc

end Go.Proofs.YtjgnapjhlhdgfaaDoor

namespace Go.Proofs.YtjgnapjhlhdgfaaDoor
open Go.RowKit

set_option maxRecDepth 100000 in
set_option maxHeartbeats 1600000 in
theorem refsum_any (A : Option Addr) (n c : Nat) (ok : Nat → Prop) (l : List UInt8) (w : World) (hr : Rd w ok 1 A n (bys l)) (hn : n ≤ 9223372036854775806) :
    Calls Tryd.prog 9 #[.slice A n c] w fun e w' => e = .returned (.int .u32 (Crc.sum l : Nat)) ∧ w = w' := by
  have hl : l.length = n := by have := hr.len; rwa [bys_len] at this
  subst hl
  go_enter Tryd.func9, Tryd.ntmps9
  go_wp2
  go_loop [3, 4] (fun s i => ∃ (k c : Nat), k ≤ l.length ∧ i = .int .i64 k ∧ s = .int .u32 c ∧ c < 4294967296 ∧ Hid (c = Crc.run 4294967295 (l.take k))) (fun _ i => l.length - (intOf i).toNat)
  case atStart => exact ⟨0, 4294967295, by omega, rfl, rfl, by omega, rfl⟩
  case round =>
    obtain ⟨k, c, hk, rfl, rfl, hc, hrun⟩ := hrel
    by_cases hlt : k < l.length
    · obtain ⟨ad, rfl, _, hcell⟩ := hr.byte hlt
      have hx := l[k].toNat_lt
      have htk : Hid (Crc.run 4294967295 (l.take (k + 1)) = Crc.step c l[k].toNat) := by
        have e := hrun.out
        show _ = _
        rw [List.take_succ_eq_append_getElem hlt, Crc.run_snoc, e]
      generalize l[k].toNat = x at *
      have h1 : (k : Int) < (l.length : Int) := by omega
      have h0 : (0 : Int) ≤ (k : Int) := by omega
      have hx' : x < 4294967296 := by omega
      have hcx : c ^^^ x < 4294967296 := Nat.xor_lt_two_pow (n := 32) hc hx'
      have hbx : bits .xor .u32 (c : Int) (x : Int) = ((c ^^^ x : Nat) : Int) := u32_xor_nat c x hc hx'
      have h8 : Hid (Crc.fN (8 - 0) (c ^^^ x) = Crc.step c x) := rfl
      generalize c ^^^ x = cx at *
      go_wp2
      clear hbx
      go_loop [3, 5] (fun s i => ∃ (q d : Nat), q ≤ 8 ∧ i = .int .i64 q ∧ s = .int .u32 d ∧ d < 4294967296 ∧ Hid (Crc.fN (8 - q) d = Crc.step c x)) (fun _ i => 8 - (intOf i).toNat)
      case atStart => exact ⟨0, cx, by omega, rfl, rfl, hcx, h8⟩
      case round =>
        obtain ⟨q, d, hq, rfl, rfl, hd, hfn⟩ := hrel
        by_cases hlt2 : q < 8
        · have hfs : Hid (Crc.fN (8 - (q + 1)) (Crc.f1 d) = Crc.step c x) := by
            have e := hfn.out
            rw [show 8 - q = 8 - (q + 1) + 1 from by omega] at e
            exact e
          have hq8 : (q : Int) < 8 := by omega
          have hd1 : Crc.f1 d < 4294967296 := Crc.f1_lt hd
          have HD1 := Lib.hid hd1
          clear hd1
          rcases Nat.mod_two_eq_zero_or_one d with hm | hm
          · have ht : ((d : Int) % 2 == 1) = false := by rw [beq_eq_false_iff_ne]; omega
            have hf : Hid (((d : Int) / 2) = ((Crc.f1 d : Nat) : Int)) := by show _ = _; unfold Crc.f1; rw [if_neg (by omega)]; omega
            clear hm
            go_wp2
            go_round
            case rel => exact ⟨q + 1, Crc.f1 d, by omega, by go_num, by rw [hf.out], HD1.out, hfs⟩
            case measure => simp [intOf]; omega
          · have ht : ((d : Int) % 2 == 1) = true := by rw [beq_iff_eq]; omega
            have hd2 : (d : Int) / 2 < 4294967296 := by omega
            have hd3 : 0 ≤ (d : Int) / 2 := by omega
            have hf : bits .xor .u32 ((d : Int) / 2) 3988292384 = ((Crc.f1 d : Nat) : Int) := by
              have e := u32_xor_nat (d / 2) 3988292384 (by omega) (by omega)
              rw [show ((d / 2 : Nat) : Int) = (d : Int) / 2 from by omega] at e
              have e2 : Crc.f1 d = d / 2 ^^^ 3988292384 := by unfold Crc.f1 Crc.poly; rw [if_pos hm]
              rw [e2]
              exact e
            clear hm hd2 hd3
            go_wp2
            go_round
            case rel => exact ⟨q + 1, Crc.f1 d, by omega, by go_num, rfl, HD1.out, hfs⟩
            case measure => simp [intOf]; omega
        · have hq8 : q = 8 := by omega
          subst hq8
          have hs : Hid (d = Crc.step c x) := hfn.out
          have h88 : ¬ (((8 : Nat) : Int) < 8) := by omega
          go_wp2
          go_round
          case rel => exact ⟨k + 1, d, by omega, by go_num, rfl, hd, by show _ = _; rw [htk.out, ← hs.out]⟩
          case measure => simp [intOf]; omega
    · have hkl : k = l.length := by omega
      subst hkl
      have hs : Hid (c ^^^ 4294967295 = Crc.sum l) := by
        have e := hrun.out
        rw [List.take_length] at e
        show _ = _
        rw [e]
        rfl
      have h1 : ¬ ((l.length : Nat) : Int) < (l.length : Int) := by omega
      have hbx : bits .xor .u32 (c : Int) 4294967295 = ((Crc.sum l : Nat) : Int) := by
        rw [← hs.out]
        exact u32_xor_nat c 4294967295 hc (by omega)
      generalize hS : Crc.sum l = S at *
      have HS := Lib.hid hS
      clear hS
      go_wp2
      go_ret
      exact ⟨by rw [HS.out]; rfl, rfl⟩

/-- The program's table stands in its variable. -/
def TabOk (w : World) : Prop := ∀ k, k < 16 → w.cell? ⟨0, k, none⟩ = some (.int .u32 ((Crc.tab.getD k 0 : Nat) : Int))
theorem and15 (s : Nat) : s &&& 15 = s % 16 := Nat.and_two_pow_sub_one_eq_mod s 4
theorem tab_lt : ∀ k, k < 16 → Crc.tab.getD k 0 < 4294967296 := by decide
theorem t4_lt {s : Nat} (h : s < 4294967296) : Crc.t4 s < 4294967296 := by rw [← Crc.fN4]; exact Crc.fN_lt 4 h

set_option maxRecDepth 100000 in
set_option maxHeartbeats 1600000 in
theorem rsum_any (A : Option Addr) (n c : Nat) (ok : Nat → Prop) (l : List UInt8) (w : World) (hT : TabOk w) (hr : Rd w ok 1 A n (bys l)) (hn : n ≤ 9223372036854775806) :
    Calls Tryd.prog 10 #[.slice A n c] w fun e w' => e = .returned (.int .u32 (Crc.sum l : Nat)) ∧ w = w' := by
  have hl : l.length = n := by have := hr.len; rwa [bys_len] at this
  subst hl
  have HT := Lib.hid hT
  clear hT
  go_enter Tryd.func10, Tryd.ntmps10
  go_wp2
  go_loop [3, 8] (fun s i => ∃ (k c : Nat), k ≤ l.length ∧ i = .int .i64 k ∧ s = .int .u32 c ∧ c < 4294967296 ∧ Hid (c = Crc.run 4294967295 (l.take k))) (fun _ i => l.length - (intOf i).toNat)
  case atStart => exact ⟨0, 4294967295, by omega, rfl, rfl, by omega, rfl⟩
  case round =>
    obtain ⟨k, c, hk, rfl, rfl, hc, hrun⟩ := hrel
    by_cases hlt : k < l.length
    · obtain ⟨ad, rfl, _, hcell⟩ := hr.byte hlt
      have hx := l[k].toNat_lt
      have htk : Hid (Crc.run 4294967295 (l.take (k + 1)) = Crc.stepT c l[k].toNat) := by
        have e := hrun.out
        show _ = _
        rw [List.take_succ_eq_append_getElem hlt, Crc.run_snoc, Crc.step_eq, e]
      generalize l[k].toNat = x at *
      have h1 : (k : Int) < (l.length : Int) := by omega
      have h0 : (0 : Int) ≤ (k : Int) := by omega
      have hx' : x < 4294967296 := by omega
      have hcx : c ^^^ x < 4294967296 := Nat.xor_lt_two_pow (n := 32) hc hx'
      have hbx : bits .xor .u32 (c : Int) (x : Int) = ((c ^^^ x : Nat) : Int) := u32_xor_nat c x hc hx'
      have hst : Hid (Crc.stepT c x = Crc.t4 (Crc.t4 (c ^^^ x))) := rfl
      generalize c ^^^ x = s at *
      have hb1 : bits .and .u32 (s : Int) 15 = ((s % 16 : Nat) : Int) := by rw [← and15]; exact u32_and_nat s 15 hcx (by omega)
      have hc1 := HT.out (s % 16) (Nat.mod_lt _ (by omega))
      have hl1 := tab_lt (s % 16) (Nat.mod_lt _ (by omega))
      have hb2 : bits .xor .u32 ((Crc.tab.getD (s % 16) 0 : Nat) : Int) ((s : Int) / 16) = ((Crc.t4 s : Nat) : Int) := by
        rw [show (s : Int) / 16 = ((s / 16 : Nat) : Int) from by omega]
        exact u32_xor_nat _ _ hl1 (by omega)
      have ht1 := t4_lt hcx
      have hm1 : s % 16 < 16 := Nat.mod_lt _ (by omega)
      generalize Crc.t4 s = s2 at *
      generalize Crc.tab.getD (s % 16) 0 = y1 at *
      have hb3 : bits .and .u32 (s2 : Int) 15 = ((s2 % 16 : Nat) : Int) := by rw [← and15]; exact u32_and_nat s2 15 ht1 (by omega)
      have hc2 := HT.out (s2 % 16) (Nat.mod_lt _ (by omega))
      have hl2 := tab_lt (s2 % 16) (Nat.mod_lt _ (by omega))
      have hb4 : bits .xor .u32 ((Crc.tab.getD (s2 % 16) 0 : Nat) : Int) ((s2 : Int) / 16) = ((Crc.t4 s2 : Nat) : Int) := by
        rw [show (s2 : Int) / 16 = ((s2 / 16 : Nat) : Int) from by omega]
        exact u32_xor_nat _ _ hl2 (by omega)
      have ht2 := t4_lt ht1
      have hm2 : s2 % 16 < 16 := Nat.mod_lt _ (by omega)
      generalize Crc.t4 s2 = s3 at *
      generalize Crc.tab.getD (s2 % 16) 0 = y2 at *
      generalize s % 16 = m1 at *
      generalize s2 % 16 = m2 at *
      have g1 : (m1 : Int) < 16 := by omega
      have g2 : (m2 : Int) < 16 := by omega
      go_wp2
      go_round
      case rel => exact ⟨k + 1, s3, by omega, by go_num, rfl, ht2, by show _ = _; rw [htk.out, hst.out]⟩
      case measure => simp [intOf]; omega
    · have hkl : k = l.length := by omega
      subst hkl
      have hs : Hid (c ^^^ 4294967295 = Crc.sum l) := by
        have e := hrun.out
        rw [List.take_length] at e
        show _ = _
        rw [e]
        rfl
      have h1 : ¬ ((l.length : Nat) : Int) < (l.length : Int) := by omega
      have hbx : bits .xor .u32 IntKind.u32.max (c : Int) = ((Crc.sum l : Nat) : Int) := by
        rw [← hs.out, Nat.xor_comm, show IntKind.u32.max = ((4294967295 : Nat) : Int) from by decide]
        exact u32_xor_nat 4294967295 c (by omega) hc
      generalize hS : Crc.sum l = S at *
      have HS := Lib.hid hS
      clear hS
      go_wp2
      go_ret
      exact ⟨by rw [HS.out]; rfl, rfl⟩

end Go.Proofs.YtjgnapjhlhdgfaaDoor

namespace Go.Proofs.YtjgnapjhlhdgfaaDoor
open Go.RowKit

theorem TabOk.kp {w w' : World} {S : Nat → Prop} (h : TabOk w) (k : Kp S w w') (hS : ¬ S 0) : TabOk w' := fun i hi =>
  (k.cell (World.block_lt_of_cell? _ _ (h i hi)) hS).trans (h i hi)
theorem TabOk.nw {w w' : World} (h : TabOk w) (k : Nw w w') : TabOk w' := h.kp k fun e => e
theorem TabOk.lt {w : World} (h : TabOk w) : 0 < w.heap.size := World.block_lt_of_cell? _ _ (h 0 (by omega))

theorem turn1 {w : World} {base e g n m cap : Nat} {l : List UInt8} {k : Nat} {a : Int} (h : w.ownsRow base e 1 (.slice (some ⟨g, 0, none⟩) (m + n) cap) (m + n) (bys [] ++ bys l)) (hl : l.length = n) (hk : k < n) (h0 : 0 ≤ a) (h1 : a < 256) :
    (∃ v, w.cell? ⟨g, k, none⟩ = some v) ∧ w.frozen? ⟨g, k, none⟩ = false ∧
      Hid ((w.setCell ⟨g, k, none⟩ (.int .u8 a)).ownsRow base e 1 (.slice (some ⟨g, 0, none⟩) (m + n) cap) (m + n) (bys (l.set k (UInt8.ofNat a.toNat))) ∧ Kp (fun i => i = g) w (w.setCell ⟨g, k, none⟩ (.int .u8 a))) := by
  have hb : (.int .u8 a : Value) = bv (UInt8.ofNat a.toNat) := bv_mk h0 h1
  have hst := h.stored k (bv (UInt8.ofNat a.toNat))
  have e1 : bys [] ++ bys l = bys l := rfl
  rw [e1] at h hst
  rw [bys_set, ← hb] at hst
  exact ⟨⟨_, own_at h (List.getElem?_eq_getElem (by rw [bys_len]; omega))⟩, h.frozenAt _, hst.1, (Kp.of_grown hst.2).mono fun i _ e => by injection e⟩

set_option maxRecDepth 100000 in
set_option maxHeartbeats 3200000 in
theorem law_RecordSums (A0 : Option Addr) (n0 c0 : Nat) (x0 : List UInt8) (a1 a2 : Int) (w : World) (hT : TabOk w)
    (hr0 : Rd w (fun _ => True) 1 A0 n0 (bys x0)) (hc0 : n0 ≤ c0) (hb0 : c0 * 1 ≤ 140737488351232) (h1l : -9223372036854775808 ≤ a1) (h1u : a1 ≤ 9223372036854775807) (h2l : 0 ≤ a2) (h2u : a2 < 256) :
    Calls Tryd.prog 3 #[.slice A0 n0 c0, .int .i64 a1, .int .u8 a2] w fun e w' => e = .returned (.bool true) ∧ Nw w w' := by
  have hl0 : x0.length = n0 := by have := hr0.len; rwa [bys_len] at this
  have HL := Lib.hid hl0
  have eb := Tryd.elU8
  have HT := Lib.hid hT
  have HSS := Lib.hid (fun k hk x => Crc.sum_set x0 k hk x)
  have HRS := Lib.hid (fun W (h : Nw w W) => refsum_any A0 n0 c0 _ x0 W (hr0.nw h) (by omega))
  have HPS := Lib.hid (fun W (h : Nw w W) => rsum_any A0 n0 c0 _ x0 W (HT.out.nw h) (hr0.nw h) (by omega))
  obtain ⟨S, hS⟩ : ∃ S, S = Crc.sum x0 := ⟨_, rfl⟩
  rw [← hS] at HRS HPS HSS
  have hss : ((S : Int) != (S : Int)) = false := by simp
  have hss2 : ((S : Int) == (S : Int)) = true := by simp
  clear hT hS hl0
  by_cases hz : n0 = 0 ∨ a1 < 0
  · have hz' : n0 = 0 ∨ (((n0 : Int) == 0) = false ∧ a1 < 0) := by
      by_cases h : n0 = 0
      · exact .inl h
      · exact .inr ⟨by rw [beq_eq_false_iff_ne]; omega, by omega⟩
    clear hz hr0
    rcases hz' with rfl | ⟨hz1, hz2⟩
    all_goals
      go_enter Tryd.func3, Tryd.ntmps3
      go_wp2_with fail
      refine (awake_any _).mono ?_
      rintro e w2 ⟨rfl, hnw2⟩
      go_wp2_with fail
      refine (HRS.out w2 hnw2).mono ?_
      rintro e w' ⟨rfl, rfl⟩
      go_wp2_with fail
      refine (HPS.out w2 hnw2).mono ?_
      rintro e w' ⟨rfl, rfl⟩
      go_wp2_with fail
      go_ret
      exact ⟨rfl, hnw2⟩
  · have hz1 : 0 < n0 := by omega
    have hz2 : ¬ a1 < 0 := by omega
    have hz3 : ((n0 : Int) == 0) = false := by rw [beq_eq_false_iff_ne]; omega
    have hz4 : (0 : Int) < (n0 : Int) := by omega
    obtain ⟨k, hk⟩ : ∃ k : Nat, (k : Int) = a1 % (n0 : Int) := ⟨(a1 % (n0 : Int)).toNat, by
      have := Int.emod_nonneg a1 (b := (n0 : Int)) (by omega)
      omega⟩
    have hklt : k < n0 := by
      have := Int.emod_lt_of_pos a1 hz4
      omega
    have HK := Lib.hid hk
    have HR := Lib.hid hr0
    clear hz hk hr0
    go_enter Tryd.func3, Tryd.ntmps3
    go_wp2_with fail
    refine (awake_any _).mono ?_
    rintro e w2 ⟨rfl, hnw2⟩
    go_wp2_with fail
    refine (HRS.out w2 hnw2).mono ?_
    rintro e w' ⟨rfl, rfl⟩
    go_wp2_with fail
    refine (HPS.out w2 hnw2).mono ?_
    rintro e w' ⟨rfl, rfl⟩
    have hk := HK.out.symm
    have hnil : w2.ownsRow w2.heap.size 5 1 (.slice none 0 0) 0 (bys []) := World.ownsRow_nil _ _ _ _
    go_wp2_with (at_builtin; go_loud (refine wpList_appv _ rfl (.tmp 44) (.tmp 45) 22 5 rfl eb w2.heap.size _ _ _ hnil rfl _ A0 _ c0 _ (HR.out.nw hnw2) rfl (bys_one _) (by simp only [maxLen]; omega) (by omega) (Nat.le_refl _) ?_; intro v3 w3 ho3 hk3 ha3; obtain ⟨A3, c3, rfl, hc3, _⟩ := own_read ho3; have hso := own_some ho3 (show 0 < 0 + n0 by omega); obtain ⟨g, rfl⟩ := hso; have htn := turn1 (k := k) (a := a2) ho3 HL.out hklt h2l h2u; obtain ⟨⟨vv, hcl⟩, hfz, HST⟩ := htn; clear ho3))
    have how := HST.out.1
    rw [Nat.zero_add] at how
    have hg : w2.heap.size ≤ g := own_ge how rfl
    have hnw3 : Nw w2 w3 := hk3.mono fun i _ e => by simp [Value.ownBlock] at e
    have hnw4 : Nw w2 (w3.setCell ⟨g, k, none⟩ (.int .u8 a2)) := hnw3.trans HST.out.2 fun i hi e => by omega
    have hsum := HSS.out k (by rw [HL.out]; exact hklt) (UInt8.ofNat a2.toNat)
    have HRX := Lib.hid (own_slice how)
    have HN4 := Lib.hid hnw4
    clear hcl hfz HST how hnw3 hnw4 hk3
    generalize w3.setCell ⟨g, k, none⟩ (.int .u8 a2) = w4 at *
    have hn4 := hnw2.nw HN4.out
    obtain ⟨ad, rfl, _, hcb⟩ := (HR.out.nw hn4).byte (k := k) (by rw [HL.out]; exact hklt)
    have hto : (((Crc.sum (x0.set k (UInt8.ofNat a2.toNat)) : Nat) : Int) == (S : Int)) = (a2 == ((x0[k]'(by rw [HL.out]; exact hklt)).toNat : Int)) := by
      rw [Bool.eq_iff_iff]
      simp only [beq_iff_eq]
      constructor
      · intro h
        have h1 := hsum.1 (by omega)
        rw [← h1, UInt8.toNat_ofNat']
        omega
      · intro h
        have h1 := hsum.2 (by rw [h]; simp)
        omega
    have hrs := rsum_any _ _ c3 _ _ w4 (HT.out.nw hn4) HRX.out (by omega)
    generalize Crc.sum (x0.set k (UInt8.ofNat a2.toNat)) = T at *
    generalize (x0[k]'(by rw [HL.out]; exact hklt)).toNat = y at *
    have HRS2 := Lib.hid hrs
    have h1 : (k : Int) < (n0 : Int) := by omega
    have h0 : (0 : Int) ≤ (k : Int) := by omega
    clear hsum hrs hk
    refine HRS2.out.mono ?_
    rintro e w' ⟨rfl, rfl⟩
    cases hq : (a2 == (y : Int))
    all_goals
      rw [hq] at hto
      go_wp2_with fail
      go_ret
      exact ⟨rfl, hn4⟩

end Go.Proofs.YtjgnapjhlhdgfaaDoor
