/- Records: the document's number: as layer 1 writes it. Records: their bytes, as lists. -/
import Derived.Test.YtjgnapjhlhdgfaaDoorSa
import Derived.Test.YtjgnapjhlhdgfaaDoorOw
import Derived.Test.YtjgnapjhlhdgfaaDoorRg
set_option linter.unusedVariables false
set_option linter.unusedSimpArgs false
namespace Go.Proofs.YtjgnapjhlhdgfaaDoor
open Go.RowKit

theorem vint {k : IntKind} {a b : Int} (h : a = b) : (Value.int k a) = .int k b := by rw [h]
/-- A counter that goes down to -1. -/
def dn : Nat → Value
  | 0 => .int .i64 (-1)
  | j + 1 => .int .i64 (j : Int)
theorem dn_len (n : Nat) : (Value.int .i64 ((n : Int) - 1)) = dn n := by
  cases n with
  | zero => rfl
  | succ n => exact vint (by omega)
theorem take_rev (l : List UInt8) (j : Nat) (h : j < l.length) : l.take (l.length - (j + 1)) ++ [l.reverse[j]'(by simpa using h)] = l.take (l.length - j) := by
  rw [List.getElem_reverse]
  have e : l.length - j = l.length - 1 - j + 1 := by omega
  rw [e, List.take_succ_eq_append_getElem (by omega)]
  congr 2
  omega

theorem num_step (xs L E : List UInt8) (hL : L = E.reverse) (j : Nat) (hj : j < L.length) (m : Nat) (hm : L.length = m) :
    bys (xs ++ E.take (m - j)) = bys (xs ++ E.take (m - (j + 1))) ++ [.int .u8 ((L[j]'hj).toNat : Int)] := by
  subst hL
  subst hm
  have htr := take_rev E j (by simpa using hj)
  rw [List.length_reverse, ← htr, ← List.append_assoc, bys_app]
  rfl

/-- Behind a step that turned nothing old, a step that may turn S. -/
theorem Kp.kp0 {S : Nat → Prop} {a w w' : World} (h : Nw a w) (k : Kp S w w') : Kp S a w' :=
  ⟨k.os.trans h.os, k.tape.trans h.tape, k.output.trans h.output, Nat.le_trans h.size k.size,
    fun i hi hn => (k.block i (Nat.lt_of_lt_of_le hi h.size) hn).trans (h.block i hi fun e => e)⟩

set_option maxRecDepth 100000 in
set_option maxHeartbeats 1600000 in
theorem refnum_any (v : Value) (n : Int) (base k : Nat) (xs : List UInt8) (w : World) (h0 : 0 ≤ n) (h1 : n ≤ 4611686018427387903)
    (hown : w.ownsRow base 5 1 v k (bys xs)) (hbase : base ≤ w.heap.size) (hk : k ≤ 140737488350000) :
    Calls Tryd.prog 51 #[v, .int .i64 n] w fun e w' => ∃ v', e = .returned v' ∧ w'.ownsRow base 5 1 v' (k + siz n.toNat) (bys (xs ++ enc n.toNat)) ∧
      Kp (fun g => v.ownBlock = some g) w w' ∧ OwnAt w v v' := by
  obtain ⟨n, rfl⟩ := Int.eq_ofNat_of_zero_le h0
  rw [Int.toNat_natCast]
  have hs1 := siz_pos n
  have hs2 := siz_le (n := n) (by omega)
  have hel := enc_len n
  have ei := Tryd.elU8
  have hnil : w.ownsRow w.heap.size 5 1 (.slice none 0 0) 0 (bys []) := World.ownsRow_nil _ _ _ _
  have HE := Lib.hid hel
  clear hel
  go_enter Tryd.func51, Tryd.ntmps51
  go_wp2_with (at_builtin; refine wpList_app1 w _ _ rfl (.tmp 7) (.tmp 11) 22 5 rfl ei w.heap.size _ _ _ hnil rfl 1 1 rfl rfl (by simp [Value.oneCell']) (by simp [maxLen]) (by omega) (Nat.le_refl _) ?_; intro v1 w1 hown1 hkp1 hat1)
  have hnw1 : Nw w w1 := hkp1.mono fun g _ e => by simp [Value.ownBlock] at e
  go_loopw [1, 5] (fun x1 x5 wr => ∃ (m : Nat) (L : List UInt8), x1 = .int .i64 m ∧ m ≤ n ∧ wr.ownsRow w.heap.size 5 1 x5 L.length (bys L) ∧ L ++ (hi0 m).reverse = (enc n).reverse ∧ Nw w wr)
    (fun x _ _ => (intOf x).toNat)
  case atStart =>
    refine ⟨n / 128, [UInt8.ofNat (n % 128)], by go_num, by omega, ?_, by simp [enc], hnw1⟩
    have e := bv_mk (x := (n : Int) % 128) (by omega) (by omega)
    have e2 : ((n : Int) % 128).toNat = n % 128 := by omega
    rw [e2] at e
    simpa [bys, ← e] using hown1
  case round =>
    obtain ⟨m, L, rfl, hmn, hol, heq, hnw⟩ := hrel
    have hlen := congrArg List.length heq
    simp only [List.length_append, List.length_reverse, HE.out, hi0_len] at hlen
    have hL : L.length ≤ 10 := by omega
    have HEQ := Lib.hid heq
    clear heq hlen
    by_cases hm : 0 < m
    · have hm' : (0 : Int) < (m : Int) := by omega
      go_wp2_with (at_builtin; refine wpList_app1 wr _ _ rfl (.tmp 19) (.tmp 24) 22 5 rfl ei w.heap.size _ _ _ hol rfl 1 1 rfl rfl (by simp [Value.oneCell']) (by simp only [maxLen]; omega) (by omega) (by have := hnw.size; omega) ?_; intro v2 w2 hown2 hkp2 hat2)
      go_roundw
      case rel =>
        refine ⟨m / 128, L ++ [mk8 (m % 128)], by go_num, by omega, ?_, ?_, Nw.row hnw hol hkp2⟩
        · have e := bv_mk (x := 128 + (m : Int) % 128) (by omega) (by omega)
          have e2 : (128 + (m : Int) % 128).toNat = m % 128 + 128 := by omega
          rw [e2] at e
          have e3 : bys (L ++ [mk8 (m % 128)]) = bys L ++ [.int .u8 (128 + (m : Int) % 128)] := by rw [bys_app, e]; rfl
          rw [e3]
          simpa using hown2
        · rw [← HEQ.out, hi0_pos (m := m) (by omega)]
          simp
      case measure => simp [intOf]; omega
    · have hm0 : m = 0 := by omega
      subst hm0
      have hLr : L = (enc n).reverse := by rw [← HEQ.out, hi0_zero]; simp
      obtain ⟨A5, c5, rfl, hc5, hr5⟩ := own_read hol
      have hr5' : Rd wr (fun g => w.heap.size ≤ g ∧ g < wr.heap.size) 1 A5 L.length (bys L) := hr5.more fun g hg => ⟨own_ge hol hg, own_lt hol hg⟩
      have HLR := Lib.hid hLr
      have hLl : L.length = siz n := by rw [hLr, List.length_reverse, HE.out]
      have HLL := Lib.hid hLl
      clear hLr hLl
      have hm' : ¬ (0 : Int) < ((0 : Nat) : Int) := by omega
      have hownr : wr.ownsRow base 5 1 v k (bys xs) := own_nw hown hnw
      have hvlt : ∀ g, v.ownBlock = some g → g < w.heap.size := fun g hg => own_lt hown hg
      have HVLT := Lib.hid hvlt
      clear hvlt
      obtain ⟨wo, rfl⟩ : ∃ wo : World, wo = wr := ⟨_, rfl⟩
      go_wp2
      go_loopw [0, 6] (fun x0 x6 wr => ∃ j : Nat, j ≤ L.length ∧ x6 = dn j ∧ wr.ownsRow base 5 1 x0 (k + (siz n - j)) (bys (xs ++ (enc n).take (siz n - j))) ∧ Kp (fun g => v.ownBlock = some g) wo wr ∧ OwnAt wo v x0)
        (fun _ x _ => (intOf x + 1).toNat)
      case atStart =>
        refine ⟨L.length, Nat.le_refl _, dn_len _, ?_, Kp.refl _ _, OwnAt.refl _ _⟩
        have e : siz n - L.length = 0 := by rw [HLL.out]; omega
        rw [e, List.take_zero, List.append_nil]
        exact hownr
      case round =>
        obtain ⟨j, hj, rfl, how, hkp, hat⟩ := hrel
        have hrx := hr5'.kp hkp fun g hg e => by have := HVLT.out g e; omega
        cases j with
        | zero =>
          have e : (enc n).take (siz n - 0) = enc n := by rw [List.take_of_length_le (by rw [HE.out]; omega)]
          rw [e, Nat.sub_zero] at how
          have HOW := Lib.hid how
          clear how e
          unfold dn
          go_wp2
          go_ret
          refine ⟨_, rfl, HOW.out, hnw.kp0 hkp, ?_⟩
          rcases hat with hat | ⟨g, hg, hge⟩
          · exact .inl hat
          · exact .inr ⟨g, hg, Nat.le_trans hnw.size hge⟩
        | succ j =>
          unfold dn
          obtain ⟨ad, rfl, _, hc⟩ := hrx.byte (k := j) (by omega)
          have hj0 : (0 : Int) ≤ (j : Int) := by omega
          have hj1 : (j : Int) < (L.length : Int) := by omega
          go_wp2_with (at_builtin; refine wpList_app1 wr _ _ rfl (.tmp 33) (.tmp 38) 22 5 rfl ei base _ _ _ how rfl 1 1 rfl rfl (by simp [Value.oneCell']) (by simp only [maxLen]; omega) (by omega) (by have := hnw.size; have := hkp.size; omega) ?_; intro v3 w3 hown3 hkp3 hat3)
          go_roundw
          case rel =>
            refine ⟨j, by omega, dn_len _, ?_, hat.kp hkp (fun g e => e) hkp3, hat.trans hat3 hkp.size⟩
            rw [num_step xs L (enc n) HLR.out j (by omega) (siz n) HLL.out, show k + (siz n - j) = k + (siz n - (j + 1)) + 1 from by have := HLL.out; omega]
            exact hown3
          case measure => cases j <;> simp [intOf, dn] <;> omega

end Go.Proofs.YtjgnapjhlhdgfaaDoor

namespace Go.Proofs.YtjgnapjhlhdgfaaDoor
open Go.RowKit

def spE (s : Int × Int) : List UInt8 := enc s.1.toNat ++ enc (s.2 - s.1).toNat
def itm (a : Rc) (sp : List (Int × Int)) (dt : List UInt8) (f : Nat) : List UInt8 :=
  if f = 9 then enc a.dn ++ dt else if f = 8 then enc a.sn ++ sp.flatMap spE else enc (a.num f).toNat
def prR (a : Rc) (sp : List (Int × Int)) (dt : List UInt8) : List UInt8 := UInt8.ofNat a.k.toNat :: (fds a.k).flatMap (itm a sp dt)
def prO (a : Rc) (sp : List (Int × Int)) (dt : List UInt8) : List UInt8 := if okR a sp then prR a sp dt else []

/-- What Right tells. -/
structure OkF (a : Rc) (sp : List (Int × Int)) : Prop where
  num : ∀ i, i < 8 → 0 ≤ a.num i ∧ a.num i ≤ 4611686018427387903
  dat : 9 ∈ fds a.k → a.dn ≤ 65536
  spn : 8 ∈ fds a.k → a.sn ≤ 500 ∧ okS sp = true
  kind : 1 ≤ a.k ∧ a.k ≤ 12

theorem fds_kind {k : Int} (h : fds k ≠ []) : 1 ≤ k ∧ k ≤ 12 := by
  unfold fds at h
  repeat' split at h
  all_goals first | omega | (exact absurd rfl h)
theorem fds_nine {k : Int} (h : 9 ∈ fds k) : k = 3 ∨ k = 6 := by
  unfold fds at h
  repeat' split at h
  all_goals (simp at h; try omega)
theorem fds_eight {k : Int} (h : 8 ∈ fds k) : k = 11 := by
  unfold fds at h
  repeat' split at h
  all_goals (simp at h; try omega)
theorem okR_f {a : Rc} {sp : List (Int × Int)} (h : okR a sp = true) : OkF a sp := by
  unfold okR at h
  simp only [Bool.and_eq_true] at h
  obtain ⟨⟨⟨⟨⟨⟨h1, h2⟩, h3⟩, h4⟩, h5⟩, h6⟩, h7⟩ := h
  have hn : ∀ i, i < 8 → 0 ≤ a.num i ∧ a.num i ≤ 4611686018427387903 := fun i hi => by
    have := (List.all_eq_true.1 h4) i (List.mem_range.2 hi)
    unfold numOk at this
    rw [Bool.and_eq_true] at this
    have := of_decide_eq_true this.1
    unfold maxN at this
    exact this
  refine ⟨hn, fun h9 => ?_, fun h8 => ?_, fds_kind (by intro e; rw [e] at h1; simp at h1)⟩
  · rcases fds_nine h9 with e | e
    · have h7' : decide (1 ≤ a.p ∧ 1 ≤ a.r ∧ a.r ≤ a.z ∧ a.z ≤ 65536 ∧ (a.dn : Int) = a.r) = true := by
        rw [← h7]
        unfold fitS
        rw [if_neg (by omega), if_neg (by omega), if_pos e]
      have := of_decide_eq_true h7'
      omega
    · have h7' : decide (1 ≤ a.dn ∧ a.f + (a.dn : Int) ≤ 65536 ∧ (a.r = 0 ∨ (a.f + (a.dn : Int) ≤ a.r ∧ a.r ≤ 65536)) ∧ (a.z = 0 ∨ (a.f + (a.dn : Int) ≤ a.z ∧ a.r ≤ a.z ∧ a.z ≤ 65536))) = true := by
        rw [← h7]
        unfold fitS
        rw [if_neg (by omega), if_neg (by omega), if_neg (by omega), if_neg (by omega), if_pos e]
      have := of_decide_eq_true h7'
      have h4 := (hn 4 (by omega)).1
      have : a.num 4 = a.f := rfl
      omega
  · have e := fds_eight h8
    have h7' : ((decide (1 ≤ a.z ∧ 1 ≤ a.sn ∧ a.sn ≤ 500) && okS sp) && head1 sp) = true := by
      rw [← h7]
      unfold fitS
      rw [if_neg (by omega), if_neg (by omega), if_neg (by omega), if_neg (by omega), if_neg (by omega), if_neg (by omega), if_pos e]
    simp only [Bool.and_eq_true] at h7'
    have := of_decide_eq_true h7'.1.1
    exact ⟨this.2.2, h7'.1.2⟩
theorem okS_at {l : List (Int × Int)} (h : okS l = true) {i : Nat} {s : Int × Int} (hi : l[i]? = some s) : 0 ≤ s.1 ∧ s.1 < s.2 ∧ s.2 ≤ 4611686018427387903 := by
  unfold okS at h
  rw [Bool.and_eq_true] at h
  have hl := (List.getElem?_eq_some_iff.1 hi).1
  have := (List.all_eq_true.1 h.2) i (List.mem_range.2 hl)
  unfold okAt at this
  rw [hi] at this
  simp only [Bool.and_eq_true] at this
  have h1 := this.1
  unfold mayS maxN at h1
  simp only [Bool.and_eq_true, decide_eq_true_eq] at h1
  omega
theorem enc_le {n : Nat} (h : n ≤ 4611686018427387903) : (enc n).length ≤ 10 := by
  rw [enc_len]
  exact siz_le (by omega)
theorem spE_len {s : Int × Int} (h : 0 ≤ s.1 ∧ s.1 < s.2 ∧ s.2 ≤ 4611686018427387903) : (spE s).length ≤ 20 := by
  unfold spE
  have h1 := enc_le (n := s.1.toNat) (by omega)
  have h2 := enc_le (n := (s.2 - s.1).toNat) (by omega)
  rw [List.length_append]
  omega
theorem spE_all : ∀ {l : List (Int × Int)}, (∀ s ∈ l, 0 ≤ s.1 ∧ s.1 < s.2 ∧ s.2 ≤ 4611686018427387903) → (l.flatMap spE).length ≤ 20 * l.length
  | [], _ => by simp
  | s :: l, h => by
    have h1 := spE_len (h s (by simp))
    have h2 := spE_all (l := l) fun x hx => h x (by simp [hx])
    rw [List.flatMap_cons, List.length_append, List.length_cons]
    omega
theorem okS_all {l : List (Int × Int)} (h : okS l = true) : ∀ s ∈ l, 0 ≤ s.1 ∧ s.1 < s.2 ∧ s.2 ≤ 4611686018427387903 := fun s hs => by
  obtain ⟨i, hi⟩ := List.mem_iff_getElem?.1 hs
  exact okS_at h hi
theorem itm_len {a : Rc} {sp : List (Int × Int)} {dt : List UInt8} (h : OkF a sp) (hs : sp.length = a.sn) (hd : dt.length = a.dn) {f : Nat} (hf : f ∈ fds a.k) : (itm a sp dt f).length ≤ 70000 := by
  unfold itm
  split
  · have := h.dat (by rwa [‹f = 9›] at hf)
    have h2 := enc_le (n := a.dn) (by omega)
    rw [List.length_append]
    omega
  · split
    · have := h.spn (by rwa [‹f = 8›] at hf)
      have h2 := enc_le (n := a.sn) (by omega)
      have h3 := spE_all (okS_all this.2)
      rw [List.length_append]
      omega
    · have hf10 := fds_lt a.k f hf
      have := h.num f (by omega)
      have h2 := enc_le (n := (a.num f).toNat) (by omega)
      omega
/-- Ahead of the field j. -/
def prN (a : Rc) (sp : List (Int × Int)) (dt : List UInt8) (j : Nat) : List UInt8 := UInt8.ofNat a.k.toNat :: ((fds a.k).take j).flatMap (itm a sp dt)
theorem prN_succ {a : Rc} {sp : List (Int × Int)} {dt : List UInt8} {j f : Nat} (hf : (fds a.k)[j]? = some f) : prN a sp dt (j + 1) = prN a sp dt j ++ itm a sp dt f := by
  unfold prN
  rw [List.take_add_one, hf, Option.toList_some, List.flatMap_append, List.cons_append]
  simp
theorem prN_all (a : Rc) (sp : List (Int × Int)) (dt : List UInt8) {j : Nat} (h : (fds a.k).length ≤ j) : prN a sp dt j = prR a sp dt := by
  unfold prN prR
  rw [List.take_of_length_le h]
theorem fds_len (k : Int) : (fds k).length ≤ 7 := by
  unfold fds
  repeat' split
  all_goals simp
theorem prN_len {a : Rc} {sp : List (Int × Int)} {dt : List UInt8} (h : OkF a sp) (hs : sp.length = a.sn) (hd : dt.length = a.dn) : ∀ j, (prN a sp dt j).length ≤ 1 + 70000 * j
  | 0 => by simp [prN]
  | j + 1 => by
    have ih := prN_len h hs hd (dt := dt) j
    by_cases hj : j < (fds a.k).length
    · have hg : (fds a.k)[j]? = some (fds a.k)[j] := List.getElem?_eq_getElem hj
      have := itm_len h hs hd (f := (fds a.k)[j]) (List.getElem_mem hj)
      rw [prN_succ hg, List.length_append]
      omega
    · have e : prN a sp dt (j + 1) = prN a sp dt j := by rw [prN_all _ _ _ (by omega), prN_all _ _ _ (by omega)]
      rw [e]
      omega
theorem prR_len {a : Rc} {sp : List (Int × Int)} {dt : List UInt8} (h : OkF a sp) (hs : sp.length = a.sn) (hd : dt.length = a.dn) : (prR a sp dt).length ≤ 490001 := by
  rw [← prN_all a sp dt (fds_len a.k)]
  exact prN_len h hs hd 7

end Go.Proofs.YtjgnapjhlhdgfaaDoor
