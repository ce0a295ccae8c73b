/- Records: the document's number: as layer 1 writes it. -/
import Derived.Test.YtjgnapjhlhdgfaaSa
import Derived.Test.YtjgnapjhlhdgfaaOw
set_option linter.unusedVariables false
set_option linter.unusedSimpArgs false
namespace Go.Proofs.Ytjgnapjhlhdgfaa
open Go.RowKit

theorem vint {k : IntKind} {a b : Int} (h : a = b) : (Value.int k a) = .int k b := by rw [h]
/-- A counter that goes down to -1. -/
def dn : Nat → Value
  | 0 => .int .i64 (-1)
  | j + 1 => .int .i64 (j : Int)
theorem dn_len (n : Nat) : (Value.int .i64 ((n : Int) - 1)) = dn n := by
  cases n with
  | zero => rfl
  | succ n => exact vint (by omega)
theorem take_rev (l : List UInt8) (j : Nat) (h : j < l.length) : l.take (l.length - (j + 1)) ++ [l.reverse[j]'(by simpa using h)] = l.take (l.length - j) := by
  rw [List.getElem_reverse]
  have e : l.length - j = l.length - 1 - j + 1 := by omega
  rw [e, List.take_succ_eq_append_getElem (by omega)]
  congr 2
  omega

theorem num_step (xs L E : List UInt8) (hL : L = E.reverse) (j : Nat) (hj : j < L.length) (m : Nat) (hm : L.length = m) :
    bys (xs ++ E.take (m - j)) = bys (xs ++ E.take (m - (j + 1))) ++ [.int .u8 ((L[j]'hj).toNat : Int)] := by
  subst hL
  subst hm
  have htr := take_rev E j (by simpa using hj)
  rw [List.length_reverse, ← htr, ← List.append_assoc, bys_app]
  rfl

/-- Behind a step that turned nothing old, a step that may turn S. -/
theorem Kp.kp0 {S : Nat → Prop} {a w w' : World} (h : Nw a w) (k : Kp S w w') : Kp S a w' :=
  ⟨k.os.trans h.os, k.tape.trans h.tape, k.output.trans h.output, Nat.le_trans h.size k.size,
    fun i hi hn => (k.block i (Nat.lt_of_lt_of_le hi h.size) hn).trans (h.block i hi fun e => e)⟩

set_option maxRecDepth 100000 in
set_option maxHeartbeats 1600000 in
theorem refnum_any (v : Value) (n : Int) (base k : Nat) (xs : List UInt8) (w : World) (h0 : 0 ≤ n) (h1 : n ≤ 4611686018427387903)
    (hown : w.ownsRow base 5 1 v k (bys xs)) (hbase : base ≤ w.heap.size) (hk : k ≤ 140737488350000) :
    Calls Try.prog 20 #[v, .int .i64 n] w fun e w' => ∃ v', e = .returned v' ∧ w'.ownsRow base 5 1 v' (k + siz n.toNat) (bys (xs ++ enc n.toNat)) ∧
      Kp (fun g => v.ownBlock = some g) w w' ∧ OwnAt w v v' := by
  obtain ⟨n, rfl⟩ := Int.eq_ofNat_of_zero_le h0
  rw [Int.toNat_natCast]
  have hs1 := siz_pos n
  have hs2 := siz_le (n := n) (by omega)
  have hel := enc_len n
  have ei := Try.elU8
  have hnil : w.ownsRow w.heap.size 5 1 (.slice none 0 0) 0 (bys []) := World.ownsRow_nil _ _ _ _
  have HE := Lib.hid hel
  clear hel
  go_enter Try.func20, Try.ntmps20
  go_wp2_with (at_builtin; refine wpList_app1 w _ _ rfl (.tmp 7) (.tmp 11) 25 5 rfl ei w.heap.size _ _ _ hnil rfl 1 1 rfl rfl (by simp [Value.oneCell']) (by simp [maxLen]) (by omega) (Nat.le_refl _) ?_; intro v1 w1 hown1 hkp1 hat1)
  have hnw1 : Nw w w1 := hkp1.mono fun g _ e => by simp [Value.ownBlock] at e
  go_loopw [1, 5] (fun x1 x5 wr => ∃ (m : Nat) (L : List UInt8), x1 = .int .i64 m ∧ m ≤ n ∧ wr.ownsRow w.heap.size 5 1 x5 L.length (bys L) ∧ L ++ (hi0 m).reverse = (enc n).reverse ∧ Nw w wr)
    (fun x _ _ => (intOf x).toNat)
  case atStart =>
    refine ⟨n / 128, [UInt8.ofNat (n % 128)], by go_num, by omega, ?_, by simp [enc], hnw1⟩
    have e := bv_mk (x := (n : Int) % 128) (by omega) (by omega)
    have e2 : ((n : Int) % 128).toNat = n % 128 := by omega
    rw [e2] at e
    simpa [bys, ← e] using hown1
  case round =>
    obtain ⟨m, L, rfl, hmn, hol, heq, hnw⟩ := hrel
    have hlen := congrArg List.length heq
    simp only [List.length_append, List.length_reverse, HE.out, hi0_len] at hlen
    have hL : L.length ≤ 10 := by omega
    have HEQ := Lib.hid heq
    clear heq hlen
    by_cases hm : 0 < m
    · have hm' : (0 : Int) < (m : Int) := by omega
      go_wp2_with (at_builtin; refine wpList_app1 wr _ _ rfl (.tmp 19) (.tmp 24) 25 5 rfl ei w.heap.size _ _ _ hol rfl 1 1 rfl rfl (by simp [Value.oneCell']) (by simp only [maxLen]; omega) (by omega) (by have := hnw.size; omega) ?_; intro v2 w2 hown2 hkp2 hat2)
      go_roundw
      case rel =>
        refine ⟨m / 128, L ++ [mk8 (m % 128)], by go_num, by omega, ?_, ?_, Nw.row hnw hol hkp2⟩
        · have e := bv_mk (x := 128 + (m : Int) % 128) (by omega) (by omega)
          have e2 : (128 + (m : Int) % 128).toNat = m % 128 + 128 := by omega
          rw [e2] at e
          have e3 : bys (L ++ [mk8 (m % 128)]) = bys L ++ [.int .u8 (128 + (m : Int) % 128)] := by rw [bys_app, e]; rfl
          rw [e3]
          simpa using hown2
        · rw [← HEQ.out, hi0_pos (m := m) (by omega)]
          simp
      case measure => simp [intOf]; omega
    · have hm0 : m = 0 := by omega
      subst hm0
      have hLr : L = (enc n).reverse := by rw [← HEQ.out, hi0_zero]; simp
      obtain ⟨A5, c5, rfl, hc5, hr5⟩ := own_read hol
      have hr5' : Rd wr (fun g => w.heap.size ≤ g ∧ g < wr.heap.size) 1 A5 L.length (bys L) := hr5.more fun g hg => ⟨own_ge hol hg, own_lt hol hg⟩
      have HLR := Lib.hid hLr
      have hLl : L.length = siz n := by rw [hLr, List.length_reverse, HE.out]
      have HLL := Lib.hid hLl
      clear hLr hLl
      have hm' : ¬ (0 : Int) < ((0 : Nat) : Int) := by omega
      have hownr : wr.ownsRow base 5 1 v k (bys xs) := own_nw hown hnw
      have hvlt : ∀ g, v.ownBlock = some g → g < w.heap.size := fun g hg => own_lt hown hg
      have HVLT := Lib.hid hvlt
      clear hvlt
      obtain ⟨wo, rfl⟩ : ∃ wo : World, wo = wr := ⟨_, rfl⟩
      go_wp2
      go_loopw [0, 6] (fun x0 x6 wr => ∃ j : Nat, j ≤ L.length ∧ x6 = dn j ∧ wr.ownsRow base 5 1 x0 (k + (siz n - j)) (bys (xs ++ (enc n).take (siz n - j))) ∧ Kp (fun g => v.ownBlock = some g) wo wr ∧ OwnAt wo v x0)
        (fun _ x _ => (intOf x + 1).toNat)
      case atStart =>
        refine ⟨L.length, Nat.le_refl _, dn_len _, ?_, Kp.refl _ _, OwnAt.refl _ _⟩
        have e : siz n - L.length = 0 := by rw [HLL.out]; omega
        rw [e, List.take_zero, List.append_nil]
        exact hownr
      case round =>
        obtain ⟨j, hj, rfl, how, hkp, hat⟩ := hrel
        have hrx := hr5'.kp hkp fun g hg e => by have := HVLT.out g e; omega
        cases j with
        | zero =>
          have e : (enc n).take (siz n - 0) = enc n := by rw [List.take_of_length_le (by rw [HE.out]; omega)]
          rw [e, Nat.sub_zero] at how
          have HOW := Lib.hid how
          clear how e
          unfold dn
          go_wp2
          go_ret
          refine ⟨_, rfl, HOW.out, hnw.kp0 hkp, ?_⟩
          rcases hat with hat | ⟨g, hg, hge⟩
          · exact .inl hat
          · exact .inr ⟨g, hg, Nat.le_trans hnw.size hge⟩
        | succ j =>
          unfold dn
          obtain ⟨ad, rfl, _, hc⟩ := hrx.byte (k := j) (by omega)
          have hj0 : (0 : Int) ≤ (j : Int) := by omega
          have hj1 : (j : Int) < (L.length : Int) := by omega
          go_wp2_with (at_builtin; refine wpList_app1 wr _ _ rfl (.tmp 33) (.tmp 38) 25 5 rfl ei base _ _ _ how rfl 1 1 rfl rfl (by simp [Value.oneCell']) (by simp only [maxLen]; omega) (by omega) (by have := hnw.size; have := hkp.size; omega) ?_; intro v3 w3 hown3 hkp3 hat3)
          go_roundw
          case rel =>
            refine ⟨j, by omega, dn_len _, ?_, hat.kp hkp (fun g e => e) hkp3, hat.trans hat3 hkp.size⟩
            rw [num_step xs L (enc n) HLR.out j (by omega) (siz n) HLL.out, show k + (siz n - j) = k + (siz n - (j + 1)) + 1 from by have := HLL.out; omega]
            exact hown3
          case measure => cases j <;> simp [intOf, dn] <;> omega

end Go.Proofs.Ytjgnapjhlhdgfaa
