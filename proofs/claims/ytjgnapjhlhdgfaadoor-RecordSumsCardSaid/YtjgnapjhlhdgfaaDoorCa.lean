/- The check sum: bit by bit, by a table of four bits; turned bytes turn it. Plain. -/
import Derived.Test.YtjgnapjhlhdgfaaDoorWd
set_option linter.unusedVariables false
set_option linter.unusedSimpArgs false
namespace Go.Proofs.YtjgnapjhlhdgfaaDoor

namespace Crc
theorem canR {a b c : Nat} (h : a ^^^ c = b ^^^ c) : a = b := by
  have := congrArg (· ^^^ c) h
  simpa [Nat.xor_assoc] using this
theorem canL {a b c : Nat} (h : c ^^^ a = c ^^^ b) : a = b := canR (c := c) (by rw [Nat.xor_comm a, Nat.xor_comm b]; exact h)
def poly : Nat := 3988292384
def f1 (c : Nat) : Nat := if c % 2 = 1 then (c / 2) ^^^ poly else c / 2
def fN : Nat → Nat → Nat
  | 0, c => c
  | n + 1, c => fN n (f1 c)
def tab : List Nat := [0, 498536548, 997073096, 651767980, 1994146192, 1802195444, 1303535960, 1342533948, 3988292384, 4027552580, 3604390888, 3412177804, 2607071920, 2262029012, 2685067896, 3183342108]
def t4 (s : Nat) : Nat := tab.getD (s % 16) 0 ^^^ (s / 16)
def step (s x : Nat) : Nat := fN 8 (s ^^^ x)
def stepT (s x : Nat) : Nat := t4 (t4 (s ^^^ x))
def run (s : Nat) (l : List UInt8) : Nat := l.foldl (fun s x => step s x.toNat) s
def sum (l : List UInt8) : Nat := run 4294967295 l ^^^ 4294967295

theorem f1_lt {c : Nat} (h : c < 4294967296) : f1 c < 4294967296 := by
  unfold f1 poly
  split
  · exact Nat.xor_lt_two_pow (n := 32) (by omega) (by omega)
  · omega
theorem fN_lt : ∀ (n : Nat) {c : Nat}, c < 4294967296 → fN n c < 4294967296
  | 0, _, h => h
  | n + 1, _, h => fN_lt n (f1_lt h)
theorem fN_add : ∀ (n m c : Nat), fN (n + m) c = fN m (fN n c)
  | 0, m, c => by rw [Nat.zero_add]; rfl
  | n + 1, m, c => by rw [Nat.add_right_comm]; exact fN_add n m (f1 c)
theorem mod2_xor (a b : Nat) : (a ^^^ b) % 2 = (a % 2 + b % 2) % 2 := by
  have h := Nat.testBit_xor (x := a) (y := b) (i := 0)
  simp only [Nat.testBit_zero] at h
  rcases Nat.mod_two_eq_zero_or_one a with ha | ha <;> rcases Nat.mod_two_eq_zero_or_one b with hb | hb <;> rcases Nat.mod_two_eq_zero_or_one (a ^^^ b) with hc | hc <;> simp [ha, hb, hc] at h ⊢
theorem f1_xor (a b : Nat) : f1 (a ^^^ b) = f1 a ^^^ f1 b := by
  unfold f1
  rw [mod2_xor, Nat.xor_div_two]
  rcases Nat.mod_two_eq_zero_or_one a with ha | ha <;> rcases Nat.mod_two_eq_zero_or_one b with hb | hb <;> simp [ha, hb]
  · rw [Nat.xor_assoc]
  · rw [Nat.xor_assoc, Nat.xor_assoc, Nat.xor_comm (b / 2)]
  · have : a / 2 ^^^ poly ^^^ (b / 2 ^^^ poly) = (a / 2 ^^^ b / 2) ^^^ (poly ^^^ poly) := by
      rw [Nat.xor_assoc, Nat.xor_assoc, ← Nat.xor_assoc poly, Nat.xor_comm poly, Nat.xor_assoc]
    rw [this, Nat.xor_self, Nat.xor_zero]
theorem fN_xor : ∀ (n a b : Nat), fN n (a ^^^ b) = fN n a ^^^ fN n b
  | 0, _, _ => rfl
  | n + 1, a, b => by
    show fN n (f1 (a ^^^ b)) = _
    rw [f1_xor, fN_xor n]
    rfl
theorem fN_shift : ∀ (n m : Nat), fN n (m * 2 ^ n) = m
  | 0, m => by simp [fN]
  | n + 1, m => by
    have : f1 (m * 2 ^ (n + 1)) = m * 2 ^ n := by
      unfold f1
      rw [Nat.pow_succ, ← Nat.mul_assoc, if_neg (by omega), Nat.mul_div_cancel _ (by omega)]
    show fN n (f1 _) = m
    rw [this, fN_shift n]
theorem split16 (c : Nat) : (c % 16) ^^^ (c / 16 * 16) = c := by
  apply Nat.eq_of_testBit_eq
  intro i
  rw [Nat.testBit_xor, show (16 : Nat) = 2 ^ 4 from rfl, Nat.testBit_mod_two_pow, Nat.testBit_mul_two_pow, Nat.testBit_div_two_pow]
  by_cases h : i < 4
  · have h' : ¬ 4 ≤ i := by omega
    simp [h, h']
  · have h' : 4 ≤ i := by omega
    have e : i - 4 + 4 = i := by omega
    have e2 : 4 + (i - 4) = i := by omega
    simp [h, h', e, e2]
theorem tab_eq : ∀ k, k < 16 → tab.getD k 0 = fN 4 k := by decide
theorem fN4 (c : Nat) : fN 4 c = t4 c := by
  have h := fN_xor 4 (c % 16) (c / 16 * 16)
  rw [split16, fN_shift 4 (c / 16), ← tab_eq _ (Nat.mod_lt _ (by omega))] at h
  exact h
theorem step_eq (s x : Nat) : stepT s x = step s x := by
  unfold stepT step
  rw [← fN4, ← fN4, ← fN_add]

theorem f1_inj {a b : Nat} (ha : a < 4294967296) (hb : b < 4294967296) (h : f1 a = f1 b) : a = b := by
  have top : ∀ c, c < 4294967296 → (f1 c).testBit 31 = (c % 2 == 1) := by
    intro c hc
    unfold f1
    have h1 : (c / 2).testBit 31 = false := Nat.testBit_lt_two_pow (by omega)
    have h2 : poly.testBit 31 = true := by decide
    split
    · rw [Nat.testBit_xor, h1, h2]
      simp [*]
    · rw [h1]
      simp [*]
  have e := top a ha
  rw [h, top b hb] at e
  have e2 : a % 2 = b % 2 := by
    rcases Nat.mod_two_eq_zero_or_one a with h1 | h1 <;> rcases Nat.mod_two_eq_zero_or_one b with h2 | h2 <;> simp [h1, h2] at e ⊢
  unfold f1 at h
  rw [e2] at h
  have e3 : a / 2 = b / 2 := by
    split at h
    · exact canR h
    · exact h
  omega
theorem fN_inj : ∀ (n : Nat) {a b : Nat}, a < 4294967296 → b < 4294967296 → fN n a = fN n b → a = b
  | 0, _, _, _, _, h => h
  | n + 1, _, _, ha, hb, h => f1_inj ha hb (fN_inj n (f1_lt ha) (f1_lt hb) h)
theorem step_lt {s x : Nat} (hs : s < 4294967296) (hx : x < 256) : step s x < 4294967296 := fN_lt 8 (Nat.xor_lt_two_pow (n := 32) hs (by omega))
theorem step_inj {s s' x x' : Nat} (hs : s < 4294967296) (hs' : s' < 4294967296) (hx : x < 256) (hx' : x' < 256) (h : step s x = step s' x') : s ^^^ x = s' ^^^ x' :=
  fN_inj 8 (Nat.xor_lt_two_pow (n := 32) hs (by omega)) (Nat.xor_lt_two_pow (n := 32) hs' (by omega)) h
theorem run_lt : ∀ (l : List UInt8) {s : Nat}, s < 4294967296 → run s l < 4294967296
  | [], _, h => h
  | x :: l, _, h => run_lt l (step_lt h x.toNat_lt)
theorem run_inj : ∀ (l : List UInt8) {s s' : Nat}, s < 4294967296 → s' < 4294967296 → run s l = run s' l → s = s'
  | [], _, _, _, _, h => h
  | x :: l, s, s', hs, hs', h => by
    have h1 := run_inj l (step_lt hs x.toNat_lt) (step_lt hs' x.toNat_lt) h
    exact canR (step_inj hs hs' x.toNat_lt x.toNat_lt h1)
theorem run_app (a b : List UInt8) (s : Nat) : run s (a ++ b) = run (run s a) b := by simp [run, List.foldl_append]
theorem run_snoc (a : List UInt8) (x : UInt8) (s : Nat) : run s (a ++ [x]) = step (run s a) x.toNat := by simp [run]
/-- One byte turned: the sum is turned just then. -/
theorem sum_set (l : List UInt8) (k : Nat) (hk : k < l.length) (x : UInt8) : (sum (l.set k x) = sum l) ↔ x = l[k] := by
  have e : l.set k x = l.take k ++ x :: l.drop (k + 1) := List.set_eq_take_append_cons_drop .. |>.trans (by rw [if_pos hk])
  have e2 : l = l.take k ++ l[k] :: l.drop (k + 1) := by rw [← List.drop_eq_getElem_cons hk, List.take_append_drop]
  constructor
  · intro h
    unfold sum at h
    have h1 : run 4294967295 (l.set k x) = run 4294967295 l := canR h
    rw [e] at h1
    have h2 : run 4294967295 l = run 4294967295 (l.take k ++ l[k] :: l.drop (k + 1)) := by rw [← e2]
    rw [h2, run_app, run_app] at h1
    have hs := run_lt (l.take k) (s := 4294967295) (by omega)
    have h3 := run_inj (l.drop (k + 1)) (step_lt hs x.toNat_lt) (step_lt hs l[k].toNat_lt) h1
    have h4 := step_inj hs hs x.toNat_lt l[k].toNat_lt h3
    exact UInt8.toNat.inj (canL h4)
  · intro h
    rw [h, List.set_getElem_self]
theorem sum_lt (l : List UInt8) : sum l < 4294967296 := Nat.xor_lt_two_pow (n := 32) (run_lt l (by omega)) (by omega)
end Crc

end Go.Proofs.YtjgnapjhlhdgfaaDoor
