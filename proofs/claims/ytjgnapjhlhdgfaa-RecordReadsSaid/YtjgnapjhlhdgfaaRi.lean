/- Records: their bytes, as lists. -/
import Derived.Test.YtjgnapjhlhdgfaaRg
import Derived.Test.YtjgnapjhlhdgfaaRh
set_option linter.unusedVariables false
set_option linter.unusedSimpArgs false
namespace Go.Proofs.Ytjgnapjhlhdgfaa
open Go.RowKit

def spE (s : Int × Int) : List UInt8 := enc s.1.toNat ++ enc (s.2 - s.1).toNat
def itm (a : Rc) (sp : List (Int × Int)) (dt : List UInt8) (f : Nat) : List UInt8 :=
  if f = 9 then enc a.dn ++ dt else if f = 8 then enc a.sn ++ sp.flatMap spE else enc (a.num f).toNat
def prR (a : Rc) (sp : List (Int × Int)) (dt : List UInt8) : List UInt8 := UInt8.ofNat a.k.toNat :: (fds a.k).flatMap (itm a sp dt)
def prO (a : Rc) (sp : List (Int × Int)) (dt : List UInt8) : List UInt8 := if okR a sp then prR a sp dt else []

/-- What Right tells. -/
structure OkF (a : Rc) (sp : List (Int × Int)) : Prop where
  num : ∀ i, i < 8 → 0 ≤ a.num i ∧ a.num i ≤ 4611686018427387903
  dat : 9 ∈ fds a.k → a.dn ≤ 65536
  spn : 8 ∈ fds a.k → a.sn ≤ 500 ∧ okS sp = true
  kind : 1 ≤ a.k ∧ a.k ≤ 12

theorem fds_kind {k : Int} (h : fds k ≠ []) : 1 ≤ k ∧ k ≤ 12 := by
  unfold fds at h
  repeat' split at h
  all_goals first | omega | (exact absurd rfl h)
theorem fds_nine {k : Int} (h : 9 ∈ fds k) : k = 3 ∨ k = 6 := by
  unfold fds at h
  repeat' split at h
  all_goals (simp at h; try omega)
theorem fds_eight {k : Int} (h : 8 ∈ fds k) : k = 11 := by
  unfold fds at h
  repeat' split at h
  all_goals (simp at h; try omega)
theorem okR_f {a : Rc} {sp : List (Int × Int)} (h : okR a sp = true) : OkF a sp := by
  unfold okR at h
  simp only [Bool.and_eq_true] at h
  obtain ⟨⟨⟨⟨⟨⟨h1, h2⟩, h3⟩, h4⟩, h5⟩, h6⟩, h7⟩ := h
  have hn : ∀ i, i < 8 → 0 ≤ a.num i ∧ a.num i ≤ 4611686018427387903 := fun i hi => by
    have := (List.all_eq_true.1 h4) i (List.mem_range.2 hi)
    unfold numOk at this
    rw [Bool.and_eq_true] at this
    have := of_decide_eq_true this.1
    unfold maxN at this
    exact this
  refine ⟨hn, fun h9 => ?_, fun h8 => ?_, fds_kind (by intro e; rw [e] at h1; simp at h1)⟩
  · rcases fds_nine h9 with e | e
    · have h7' : decide (1 ≤ a.p ∧ 1 ≤ a.r ∧ a.r ≤ a.z ∧ a.z ≤ 65536 ∧ (a.dn : Int) = a.r) = true := by
        rw [← h7]
        unfold fitS
        rw [if_neg (by omega), if_neg (by omega), if_pos e]
      have := of_decide_eq_true h7'
      omega
    · have h7' : decide (1 ≤ a.dn ∧ a.f + (a.dn : Int) ≤ 65536 ∧ (a.r = 0 ∨ (a.f + (a.dn : Int) ≤ a.r ∧ a.r ≤ 65536)) ∧ (a.z = 0 ∨ (a.f + (a.dn : Int) ≤ a.z ∧ a.r ≤ a.z ∧ a.z ≤ 65536))) = true := by
        rw [← h7]
        unfold fitS
        rw [if_neg (by omega), if_neg (by omega), if_neg (by omega), if_neg (by omega), if_pos e]
      have := of_decide_eq_true h7'
      have h4 := (hn 4 (by omega)).1
      have : a.num 4 = a.f := rfl
      omega
  · have e := fds_eight h8
    have h7' : ((decide (1 ≤ a.z ∧ 1 ≤ a.sn ∧ a.sn ≤ 500) && okS sp) && head1 sp) = true := by
      rw [← h7]
      unfold fitS
      rw [if_neg (by omega), if_neg (by omega), if_neg (by omega), if_neg (by omega), if_neg (by omega), if_neg (by omega), if_pos e]
    simp only [Bool.and_eq_true] at h7'
    have := of_decide_eq_true h7'.1.1
    exact ⟨this.2.2, h7'.1.2⟩
theorem okS_at {l : List (Int × Int)} (h : okS l = true) {i : Nat} {s : Int × Int} (hi : l[i]? = some s) : 0 ≤ s.1 ∧ s.1 < s.2 ∧ s.2 ≤ 4611686018427387903 := by
  unfold okS at h
  rw [Bool.and_eq_true] at h
  have hl := (List.getElem?_eq_some_iff.1 hi).1
  have := (List.all_eq_true.1 h.2) i (List.mem_range.2 hl)
  unfold okAt at this
  rw [hi] at this
  simp only [Bool.and_eq_true] at this
  have h1 := this.1
  unfold mayS maxN at h1
  simp only [Bool.and_eq_true, decide_eq_true_eq] at h1
  omega
theorem enc_le {n : Nat} (h : n ≤ 4611686018427387903) : (enc n).length ≤ 10 := by
  rw [enc_len]
  exact siz_le (by omega)
theorem spE_len {s : Int × Int} (h : 0 ≤ s.1 ∧ s.1 < s.2 ∧ s.2 ≤ 4611686018427387903) : (spE s).length ≤ 20 := by
  unfold spE
  have h1 := enc_le (n := s.1.toNat) (by omega)
  have h2 := enc_le (n := (s.2 - s.1).toNat) (by omega)
  rw [List.length_append]
  omega
theorem spE_all : ∀ {l : List (Int × Int)}, (∀ s ∈ l, 0 ≤ s.1 ∧ s.1 < s.2 ∧ s.2 ≤ 4611686018427387903) → (l.flatMap spE).length ≤ 20 * l.length
  | [], _ => by simp
  | s :: l, h => by
    have h1 := spE_len (h s (by simp))
    have h2 := spE_all (l := l) fun x hx => h x (by simp [hx])
    rw [List.flatMap_cons, List.length_append, List.length_cons]
    omega
theorem okS_all {l : List (Int × Int)} (h : okS l = true) : ∀ s ∈ l, 0 ≤ s.1 ∧ s.1 < s.2 ∧ s.2 ≤ 4611686018427387903 := fun s hs => by
  obtain ⟨i, hi⟩ := List.mem_iff_getElem?.1 hs
  exact okS_at h hi
theorem itm_len {a : Rc} {sp : List (Int × Int)} {dt : List UInt8} (h : OkF a sp) (hs : sp.length = a.sn) (hd : dt.length = a.dn) {f : Nat} (hf : f ∈ fds a.k) : (itm a sp dt f).length ≤ 70000 := by
  unfold itm
  split
  · have := h.dat (by rwa [‹f = 9›] at hf)
    have h2 := enc_le (n := a.dn) (by omega)
    rw [List.length_append]
    omega
  · split
    · have := h.spn (by rwa [‹f = 8›] at hf)
      have h2 := enc_le (n := a.sn) (by omega)
      have h3 := spE_all (okS_all this.2)
      rw [List.length_append]
      omega
    · have hf10 := fds_lt a.k f hf
      have := h.num f (by omega)
      have h2 := enc_le (n := (a.num f).toNat) (by omega)
      omega
/-- Ahead of the field j. -/
def prN (a : Rc) (sp : List (Int × Int)) (dt : List UInt8) (j : Nat) : List UInt8 := UInt8.ofNat a.k.toNat :: ((fds a.k).take j).flatMap (itm a sp dt)
theorem prN_succ {a : Rc} {sp : List (Int × Int)} {dt : List UInt8} {j f : Nat} (hf : (fds a.k)[j]? = some f) : prN a sp dt (j + 1) = prN a sp dt j ++ itm a sp dt f := by
  unfold prN
  rw [List.take_add_one, hf, Option.toList_some, List.flatMap_append, List.cons_append]
  simp
theorem prN_all (a : Rc) (sp : List (Int × Int)) (dt : List UInt8) {j : Nat} (h : (fds a.k).length ≤ j) : prN a sp dt j = prR a sp dt := by
  unfold prN prR
  rw [List.take_of_length_le h]
theorem fds_len (k : Int) : (fds k).length ≤ 7 := by
  unfold fds
  repeat' split
  all_goals simp
theorem prN_len {a : Rc} {sp : List (Int × Int)} {dt : List UInt8} (h : OkF a sp) (hs : sp.length = a.sn) (hd : dt.length = a.dn) : ∀ j, (prN a sp dt j).length ≤ 1 + 70000 * j
  | 0 => by simp [prN]
  | j + 1 => by
    have ih := prN_len h hs hd (dt := dt) j
    by_cases hj : j < (fds a.k).length
    · have hg : (fds a.k)[j]? = some (fds a.k)[j] := List.getElem?_eq_getElem hj
      have := itm_len h hs hd (f := (fds a.k)[j]) (List.getElem_mem hj)
      rw [prN_succ hg, List.length_append]
      omega
    · have e : prN a sp dt (j + 1) = prN a sp dt j := by rw [prN_all _ _ _ (by omega), prN_all _ _ _ (by omega)]
      rw [e]
      omega
theorem prR_len {a : Rc} {sp : List (Int × Int)} {dt : List UInt8} (h : OkF a sp) (hs : sp.length = a.sn) (hd : dt.length = a.dn) : (prR a sp dt).length ≤ 490001 := by
  rw [← prN_all a sp dt (fds_len a.k)]
  exact prN_len h hs hd 7

end Go.Proofs.Ytjgnapjhlhdgfaa
