/- Plain arithmetic of the numbers in bytes (layer 1): digits to the base 128, reading them, and that both agree. No program in sight. Bits of bytes and words, as the walks of layer 1 spell them. -/
import Derived.Lib.BitFns
import Derived.Test.YtjgnapjhlhdgfaaDoorWd
import Derived.Laws.BitsAllLaws
import Derived.Lib.VarintBits
set_option linter.unusedVariables false
set_option linter.unusedSimpArgs false
namespace Go.Proofs.YtjgnapjhlhdgfaaDoor

/-- The digits of m, the highest first; of 0 none. -/
def dg0 (m : Nat) : List Nat := if h : m = 0 then [] else dg0 (m / 128) ++ [m % 128]
termination_by m
decreasing_by omega
theorem dg0_zero : dg0 0 = [] := by rw [dg0]; simp
theorem dg0_pos {m : Nat} (h : m ≠ 0) : dg0 m = dg0 (m / 128) ++ [m % 128] := by rw [dg0]; simp [h]
def sz0 (m : Nat) : Nat := (dg0 m).length
theorem sz0_zero : sz0 0 = 0 := by simp [sz0, dg0_zero]
theorem sz0_pos {m : Nat} (h : m ≠ 0) : sz0 m = sz0 (m / 128) + 1 := by simp [sz0, dg0_pos h]

/-- A digit that is not the last. -/
def mk8 (d : Nat) : UInt8 := UInt8.ofNat (d + 128)
def hi0 (m : Nat) : List UInt8 := (dg0 m).map mk8
theorem hi0_zero : hi0 0 = [] := by simp [hi0, dg0_zero]
theorem hi0_pos {m : Nat} (h : m ≠ 0) : hi0 m = hi0 (m / 128) ++ [mk8 (m % 128)] := by simp [hi0, dg0_pos h]
theorem hi0_len (m : Nat) : (hi0 m).length = sz0 m := by simp [hi0, sz0]
theorem mk8_toNat {d : Nat} (h : d < 128) : (mk8 d).toNat = d + 128 := by
  simp only [mk8, UInt8.toNat_ofNat']; omega

/-- A number's bytes; how many. -/
def enc (n : Nat) : List UInt8 := hi0 (n / 128) ++ [UInt8.ofNat (n % 128)]
def siz (n : Nat) : Nat := sz0 (n / 128) + 1
theorem enc_len (n : Nat) : (enc n).length = siz n := by simp [enc, hi0_len, siz]
theorem siz_pos (n : Nat) : 1 ≤ siz n := by unfold siz; omega
theorem enc_ne (n : Nat) : enc n ≠ [] := by simp [enc]

theorem lt_of_sz0 {m k : Nat} (h : k < sz0 m) : m / 128 ^ k ≠ 0 := by
  induction k generalizing m with
  | zero =>
    intro e
    rw [Nat.pow_zero, Nat.div_one] at e
    subst e
    rw [sz0_zero] at h
    omega
  | succ k ih =>
    have hm : m ≠ 0 := by rintro rfl; rw [sz0_zero] at h; omega
    rw [sz0_pos hm] at h
    have := ih (m := m / 128) (by omega)
    rwa [Nat.div_div_eq_div_mul, ← Nat.pow_succ'] at this
theorem div_sz0 (m : Nat) : m / 128 ^ sz0 m = 0 := by
  induction m using Nat.strongRecOn with
  | ind m ih =>
    by_cases hm : m = 0
    · subst hm; simp
    · rw [sz0_pos hm, Nat.pow_succ', ← Nat.div_div_eq_div_mul]
      exact ih _ (by omega)
theorem sz0_le {m k : Nat} (h : m < 128 ^ k) : sz0 m ≤ k := by
  rcases Nat.lt_or_ge k (sz0 m) with hlt | hge
  · exact absurd (Nat.div_eq_of_lt h) (lt_of_sz0 hlt)
  · exact hge
theorem sz0_mono {a b : Nat} (h : a ≤ b) : sz0 a ≤ sz0 b := by
  refine sz0_le (Nat.lt_of_le_of_lt h ?_)
  have := div_sz0 b
  rcases Nat.lt_or_ge b (128 ^ sz0 b) with hlt | hge
  · exact hlt
  · exact absurd this (Nat.ne_of_gt (Nat.div_pos hge (Nat.pow_pos (by omega))))
theorem siz_mono {a b : Nat} (h : a ≤ b) : siz a ≤ siz b := Nat.succ_le_succ (sz0_mono (Nat.div_le_div_right h))
theorem siz_le {n : Nat} (h : n < 18446744073709551616) : siz n ≤ 10 := by
  unfold siz
  have := sz0_le (m := n / 128) (k := 9) (by have : (128 : Nat) ^ 9 = 9223372036854775808 := by decide
                                             omega)
  omega

theorem hi0_step (n k : Nat) (h : n / 128 ^ k ≠ 0) : hi0 (n / 128 ^ k) = hi0 (n / 128 ^ (k + 1)) ++ [mk8 (n / 128 ^ k % 128)] := by
  rw [hi0_pos h, Nat.div_div_eq_div_mul, ← Nat.pow_succ]

theorem siz_bits {n : Nat} (h : n < 18446744073709551616) : max 1 ((Lib.bitLen n + 6) / 7) = siz n := by
  have key : ∀ m : Nat, m < 18446744073709551616 → (Lib.bitLen m + 6) / 7 = sz0 m := by
    intro m
    induction m using Nat.strongRecOn with
    | ind m ih =>
      intro hm
      by_cases h0 : m = 0
      · subst h0
        rw [sz0_zero]
        decide
      · rw [sz0_pos h0]
        by_cases h1 : 128 ≤ m
        · have hs := Lib.bitLen_shift 7 m (by omega) (by omega)
          have e : m / 2 ^ 7 = m / 128 := rfl
          rw [hs, e, ← ih (m / 128) (by omega) (by omega)]
          omega
        · have e : m / 128 = 0 := by omega
          have hb : Lib.bitLen m ≤ 7 := Lib.bitLen_le m 7 (by omega) (by omega)
          have hp : 1 ≤ Lib.bitLen m := by rw [Lib.bitLen_half m h0 (by omega)]; omega
          rw [e, sz0_zero]
          omega
  rw [key n h]
  unfold siz
  by_cases h0 : n = 0
  · subst h0
    rw [sz0_zero]
    decide
  · rw [sz0_pos h0]
    omega

/-! ### Reading -/
/-- What reading tells: the number, how many bytes, the error's number. -/
def rdS : List UInt8 → Nat → Nat → Nat × Nat × Nat
  | [], _, _ => (0, 0, 10)
  | b :: bs, v, i =>
    if i = 0 ∧ b.toNat = 128 then (0, 0, 11)
    else if 144115188075855872 ≤ v then (0, 0, 12)
    else if b.toNat < 128 then (128 * v + b.toNat, i + 1, 0)
    else rdS bs (128 * v + (b.toNat - 128)) (i + 1)

theorem rdS_form {b : UInt8} {bs : List UInt8} {v i : Nat} (h1 : ¬ (i = 0 ∧ b.toNat = 128)) (h2 : v < 144115188075855872) (h3 : ¬ b.toNat < 128) : rdS (b :: bs) v i = rdS bs (128 * v + (b.toNat - 128)) (i + 1) := by
  rw [rdS, if_neg h1, if_neg (by omega), if_neg h3]
theorem rdS_last {b : UInt8} {bs : List UInt8} {v i : Nat} (h2 : v < 144115188075855872) (h3 : b.toNat < 128) : rdS (b :: bs) v i = (128 * v + b.toNat, i + 1, 0) := by
  rw [rdS, if_neg (by omega), if_neg (by omega), if_pos h3]
theorem rdS_range {b : UInt8} {bs : List UInt8} {v i : Nat} (h1 : ¬ (i = 0 ∧ b.toNat = 128)) (h2 : 144115188075855872 ≤ v) : rdS (b :: bs) v i = (0, 0, 12) := by
  rw [rdS, if_neg h1, if_pos h2]
theorem rdS_shape {b : UInt8} {bs : List UInt8} {v : Nat} (h1 : b.toNat = 128) : rdS (b :: bs) v 0 = (0, 0, 11) := by
  rw [rdS, if_pos ⟨rfl, h1⟩]

theorem rdS_hi (m : Nat) : ∀ t : List UInt8, m < 144115188075855872 → rdS (hi0 m ++ t) 0 0 = rdS t m (sz0 m) := by
  induction m using Nat.strongRecOn with
  | ind m ih =>
    intro t hm
    by_cases h0 : m = 0
    · subst h0
      simp [hi0_zero, sz0_zero]
    · rw [hi0_pos h0, List.append_assoc, ih (m / 128) (by omega) _ (by omega), sz0_pos h0]
      have hd : m % 128 < 128 := Nat.mod_lt _ (by omega)
      simp only [List.cons_append, List.nil_append, rdS, mk8_toNat hd]
      have e : 128 * (m / 128) + (m % 128 + 128 - 128) = m := by omega
      rw [if_neg, if_neg (by omega), if_neg (by omega), e]
      · rintro ⟨e1, e2⟩
        have : m / 128 = 0 := by
          rcases Nat.eq_zero_or_pos (m / 128) with e | e
          · exact e
          · rw [sz0_pos (by omega)] at e1; omega
        omega

theorem rdS_enc {n : Nat} (t : List UInt8) (h : n < 18446744073709551616) : rdS (enc n ++ t) 0 0 = (n, siz n, 0) := by
  unfold enc
  rw [List.append_assoc, rdS_hi _ _ (by omega)]
  have e : (UInt8.ofNat (n % 128)).toNat = n % 128 := by simp only [UInt8.toNat_ofNat']; omega
  simp only [List.cons_append, List.nil_append, rdS, e]
  rw [if_neg (by omega), if_neg (by omega), if_pos (by omega)]
  unfold siz
  congr 1
  omega

theorem rdS_one : ∀ (xs : List UInt8) (v i n k : Nat), rdS xs v i = (n, k, 0) → sz0 v = i → (i ≠ 0 → v ≠ 0) →
    ∃ j, k = i + j ∧ 1 ≤ j ∧ j ≤ xs.length ∧ hi0 v ++ xs.take j = enc n ∧ n < 18446744073709551616 := by
  intro xs
  induction xs with
  | nil => intro v i n k h; simp [rdS] at h
  | cons b bs ih =>
    intro v i n k h hi hv
    simp only [rdS] at h
    have hb : b.toNat < 256 := b.toNat_lt
    by_cases c1 : i = 0 ∧ b.toNat = 128
    · rw [if_pos c1] at h; simp at h
    · rw [if_neg c1] at h
      by_cases c2 : 144115188075855872 ≤ v
      · rw [if_pos c2] at h; simp at h
      · rw [if_neg c2] at h
        by_cases c3 : b.toNat < 128
        · rw [if_pos c3] at h
          simp only [Prod.mk.injEq, and_true] at h
          obtain ⟨rfl, rfl⟩ := h
          refine ⟨1, rfl, Nat.le_refl _, by simp, ?_, by omega⟩
          unfold enc
          have e1 : (128 * v + b.toNat) / 128 = v := by omega
          have e2 : (128 * v + b.toNat) % 128 = b.toNat := by omega
          rw [e1, e2]
          simp
        · rw [if_neg c3] at h
          have hn : 128 * v + (b.toNat - 128) ≠ 0 := by
            intro e
            have hv0 : v = 0 := by omega
            have hi0 : i ≠ 0 := fun e0 => c1 ⟨e0, by omega⟩
            exact hv hi0 hv0
          have e1 : (128 * v + (b.toNat - 128)) / 128 = v := by omega
          have e2 : (128 * v + (b.toNat - 128)) % 128 = b.toNat - 128 := by omega
          obtain ⟨j, hk, hj, hl, he, hlt⟩ := ih _ _ _ _ h (by rw [sz0_pos hn, e1, hi]) (fun _ => hn)
          refine ⟨j + 1, by omega, by omega, by simp; omega, ?_, hlt⟩
          rw [← he, hi0_pos hn, e1, e2]
          have e3 : mk8 (b.toNat - 128) = b := by
            apply UInt8.toNat_inj.1
            rw [mk8_toNat (by omega)]
            omega
          rw [e3]
          simp

theorem rdS_back {xs : List UInt8} {n k : Nat} (h : rdS xs 0 0 = (n, k, 0)) : 1 ≤ k ∧ k ≤ xs.length ∧ xs.take k = enc n ∧ n < 18446744073709551616 := by
  obtain ⟨j, hk, hj, hl, he, hlt⟩ := rdS_one xs 0 0 n k h sz0_zero (fun e => absurd rfl e)
  have : k = j := by omega
  subst this
  exact ⟨hj, hl, by simpa [hi0_zero] using he, hlt⟩

theorem rdS_err : ∀ (xs : List UInt8) (v i : Nat), (rdS xs v i).2.2 = 0 ∨ (rdS xs v i).1 = 0 ∧ (rdS xs v i).2.1 = 0 ∧ 10 ≤ (rdS xs v i).2.2 ∧ (rdS xs v i).2.2 ≤ 12 := by
  intro xs
  induction xs with
  | nil => intro v i; simp [rdS]
  | cons b bs ih =>
    intro v i
    simp only [rdS]
    split
    · simp
    · split
      · simp
      · split
        · simp
        · exact ih _ _
theorem rdS_val_lt : ∀ (xs : List UInt8) (v i : Nat), (rdS xs v i).1 < 18446744073709551616 := by
  intro xs
  induction xs with
  | nil => intro v i; simp [rdS]
  | cons b bs ih =>
    intro v i
    have hb : b.toNat < 256 := b.toNat_lt
    simp only [rdS]
    split
    · simp
    · split
      · simp
      · split
        · simp only; omega
        · exact ih _ _
theorem rdS_k_le : ∀ (xs : List UInt8) (v i : Nat), (rdS xs v i).2.1 ≤ i + xs.length := by
  intro xs
  induction xs with
  | nil => intro v i; simp [rdS]
  | cons b bs ih =>
    intro v i
    simp only [rdS]
    split
    · simp
    · split
      · simp
      · split
        · simp
        · have := ih (128 * v + (b.toNat - 128)) (i + 1)
          simp only [List.length_cons]
          omega

/-! ### All numbers of a row -/
def joinE (l : List Nat) : List UInt8 := l.flatMap enc
theorem joinE_snoc (l : List Nat) (n : Nat) : joinE (l ++ [n]) = joinE l ++ enc n := by simp [joinE]
theorem joinE_len (l : List Nat) (h : ∀ n ∈ l, n < 18446744073709551616) : (joinE l).length ≤ 10 * l.length := by
  induction l with
  | nil => simp [joinE]
  | cons n l ih =>
    have h1 := ih fun m hm => h m (List.mem_cons_of_mem _ hm)
    have h2 := siz_le (h n List.mem_cons_self)
    simp only [joinE, List.flatMap_cons, List.length_append, List.length_cons, enc_len] at *
    omega

/-- All: the numbers, or the error. -/
def allS (xs : List UInt8) : List Nat × Nat :=
  if h : xs = [] then ([], 0)
  else
    if (rdS xs 0 0).2.2 ≠ 0 then ([], (rdS xs 0 0).2.2)
    else if hk : (rdS xs 0 0).2.1 = 0 then ([], 0)
    else
      if (allS (xs.drop (rdS xs 0 0).2.1)).2 ≠ 0 then ([], (allS (xs.drop (rdS xs 0 0).2.1)).2) else ((rdS xs 0 0).1 :: (allS (xs.drop (rdS xs 0 0).2.1)).1, 0)
termination_by xs.length
decreasing_by
  all_goals
    have : 0 < xs.length := List.length_pos_iff.2 h
    simp only [List.length_drop]
    omega

theorem allS_nil : allS [] = ([], 0) := by rw [allS]; simp
theorem allS_bad {xs : List UInt8} (h : xs ≠ []) (he : (rdS xs 0 0).2.2 ≠ 0) : allS xs = ([], (rdS xs 0 0).2.2) := by
  rw [allS]; simp [h, he]
theorem allS_good {xs : List UInt8} {n k : Nat} (h : xs ≠ []) (he : rdS xs 0 0 = (n, k, 0)) :
    allS xs = if (allS (xs.drop k)).2 ≠ 0 then ([], (allS (xs.drop k)).2) else (n :: (allS (xs.drop k)).1, 0) := by
  have hk := rdS_back he
  rw [allS]
  simp only [h, dite_false, he]
  rw [if_neg (by simp), dif_neg (by omega)]

theorem allS_join (l : List Nat) (h : ∀ n ∈ l, n < 18446744073709551616) : allS (joinE l) = (l, 0) := by
  induction l with
  | nil => simp [joinE, allS_nil]
  | cons n l ih =>
    have h1 := ih fun m hm => h m (List.mem_cons_of_mem _ hm)
    have hr := rdS_enc (joinE l) (h n List.mem_cons_self)
    have e : joinE (n :: l) = enc n ++ joinE l := by simp [joinE]
    rw [e, allS_good (by simp [enc_ne]) hr, ← enc_len, List.drop_left, h1]
    simp
theorem allS_back (xs : List UInt8) : ∀ l, allS xs = (l, 0) → joinE l = xs ∧ ∀ n ∈ l, n < 18446744073709551616 := by
  induction hn : xs.length using Nat.strongRecOn generalizing xs with
  | ind m ih =>
    intro l hl
    by_cases h : xs = []
    · subst h
      rw [allS_nil] at hl
      simp only [Prod.mk.injEq] at hl
      simp [← hl.1, joinE]
    · by_cases he : (rdS xs 0 0).2.2 = 0
      · obtain ⟨n, k, hr⟩ : ∃ n k, rdS xs 0 0 = (n, k, 0) := ⟨(rdS xs 0 0).1, (rdS xs 0 0).2.1, Prod.ext rfl (Prod.ext rfl he)⟩
        have hk := rdS_back hr
        rw [allS_good h hr] at hl
        by_cases hq : (allS (xs.drop k)).2 = 0
        · rw [if_neg (by simp [hq])] at hl
          simp only [Prod.mk.injEq, and_true] at hl
          obtain ⟨h1, h2⟩ := ih (xs.drop k).length (by simp only [List.length_drop]; omega) (xs.drop k) rfl (allS (xs.drop k)).1 (Prod.ext rfl hq)
          rw [← hl]
          refine ⟨?_, ?_⟩
          · have e : joinE (n :: (allS (xs.drop k)).1) = enc n ++ joinE (allS (xs.drop k)).1 := by simp [joinE]
            rw [e, h1, ← hk.2.2.1, List.take_append_drop]
          · intro m hm
            rcases List.mem_cons.1 hm with rfl | hm
            · exact hk.2.2.2
            · exact h2 m hm
        · rw [if_pos hq] at hl
          simp only [Prod.mk.injEq] at hl
          exact absurd hl.2 hq
      · rw [allS_bad h he] at hl
        simp only [Prod.mk.injEq] at hl
        exact absurd hl.2 he
theorem allS_err (xs : List UInt8) (h : (allS xs).2 ≠ 0) : (allS xs).1 = [] := by
  by_cases h0 : xs = []
  · subst h0; rw [allS_nil]
  · by_cases he : (rdS xs 0 0).2.2 = 0
    · obtain ⟨n, k, hr⟩ : ∃ n k, rdS xs 0 0 = (n, k, 0) := ⟨(rdS xs 0 0).1, (rdS xs 0 0).2.1, Prod.ext rfl (Prod.ext rfl he)⟩
      rw [allS_good h0 hr] at h ⊢
      by_cases hq : (allS (xs.drop k)).2 = 0
      · rw [if_neg (by simp [hq])] at h; simp at h
      · rw [if_pos hq]
    · rw [allS_bad h0 he]
theorem allS_len (xs : List UInt8) : (allS xs).1.length ≤ xs.length := by
  induction hn : xs.length using Nat.strongRecOn generalizing xs with
  | ind m ih =>
    by_cases h : xs = []
    · subst h; simp [allS_nil]
    · by_cases he : (rdS xs 0 0).2.2 = 0
      · obtain ⟨n, k, hr⟩ : ∃ n k, rdS xs 0 0 = (n, k, 0) := ⟨(rdS xs 0 0).1, (rdS xs 0 0).2.1, Prod.ext rfl (Prod.ext rfl he)⟩
        have hk := rdS_back hr
        rw [allS_good h hr]
        have := ih (xs.drop k).length (by simp only [List.length_drop]; omega) (xs.drop k) rfl
        simp only [List.length_drop] at this
        split
        · simp
        · simp only [List.length_cons]; omega
      · rw [allS_bad h he]; simp

/-- What the loop of All knows: 'got' was read, place j was come to. -/
def AllInv (xs : List UInt8) (j : Nat) (got : List Nat) : Prop :=
  j ≤ xs.length ∧ got.length ≤ j ∧ (∀ n ∈ got, n < 18446744073709551616) ∧ allS xs = if (allS (xs.drop j)).2 ≠ 0 then ([], (allS (xs.drop j)).2) else (got ++ (allS (xs.drop j)).1, 0)
theorem AllInv.start (xs : List UInt8) : AllInv xs 0 [] := by
  refine ⟨by omega, by simp, by simp, ?_⟩
  rw [List.drop_zero]
  by_cases h : (allS xs).2 = 0
  · rw [if_neg (by simp [h])]
    exact Prod.ext (by simp) h
  · rw [if_pos h]
    exact Prod.ext (allS_err xs h) rfl
theorem AllInv.bad {xs : List UInt8} {j : Nat} {got : List Nat} (h : AllInv xs j got) (hj : j < xs.length) {n k e : Nat} (he : rdS (xs.drop j) 0 0 = (n, k, e)) (h0 : e ≠ 0) : allS xs = ([], e) := by
  have hne : xs.drop j ≠ [] := by intro e; have := congrArg List.length e; simp at this; omega
  rw [h.2.2.2, allS_bad hne (by rw [he]; exact h0), he]
  simp [h0]
theorem AllInv.step {xs : List UInt8} {j : Nat} {got : List Nat} (h : AllInv xs j got) (hj : j < xs.length) {n k : Nat} (he : rdS (xs.drop j) 0 0 = (n, k, 0)) : AllInv xs (j + k) (got ++ [n]) := by
  have hne : xs.drop j ≠ [] := by intro e; have := congrArg List.length e; simp at this; omega
  have hk := rdS_back he
  have hl : (xs.drop j).length = xs.length - j := by simp
  refine ⟨by omega, ?_, ?_, ?_⟩
  · have := h.2.1
    simp
    omega
  · intro m hm
    rcases List.mem_append.1 hm with hm | hm
    · exact h.2.2.1 m hm
    · rw [List.mem_singleton.1 hm]; exact hk.2.2.2
  · rw [h.2.2.2, allS_good hne he, List.drop_drop]
    by_cases hq : (allS (xs.drop (j + k))).2 = 0
    · simp [hq]
    · simp [hq]
theorem AllInv.done {xs : List UInt8} {j : Nat} {got : List Nat} (h : AllInv xs j got) (hj : ¬ j < xs.length) : allS xs = (got, 0) := by
  rw [h.2.2.2, List.drop_of_length_le (by omega), allS_nil]
  simp
end Go.Proofs.YtjgnapjhlhdgfaaDoor

namespace Go.Proofs.YtjgnapjhlhdgfaaDoor
open Go.RowKit

theorem ret_int {k : IntKind} {a b : Int} (h : a = b) : Ending.returned (.int k a) = .returned (.int k b) := by rw [h]
theorem ret_val {a b : Value} (h : a = b) : Ending.returned a = .returned b := by rw [h]

theorem u8_or128 (x : Int) (h0 : 0 ≤ x) (h1 : x < 256) : bits .or .u8 x 128 = x % 128 + 128 := by
  have key : ∀ a : Fin 256, (a.val ||| 128 : Nat) = a.val % 128 + 128 := by decide +kernel
  rw [u8_or x 128 h0 h1 (by omega) (by omega)]
  have := key ⟨x.toNat, by omega⟩
  simp only at this
  have e : (128 : Int).toNat = 128 := rfl
  rw [e, this]
  omega

theorem pow7 (j : Nat) : (2 : Nat) ^ (7 * j) = 128 ^ j := by rw [Nat.pow_mul]
theorem div_pow7 (n : Int) (j : Nat) (h0 : 0 ≤ n) : n / 2 ^ (7 * j) = ((n.toNat / 128 ^ j : Nat) : Int) := by
  obtain ⟨m, rfl⟩ := Int.eq_ofNat_of_zero_le h0
  rw [Int.toNat_natCast, ← pow7]
  simp
theorem dig_bits (n : Int) (j : Nat) (h0 : 0 ≤ n) : (.int .u8 (bits .or .u8 (n / 2 ^ (7 * j) % 256) 128) : Value) = bv (mk8 (n.toNat / 128 ^ j % 128)) := by
  rw [u8_or128 _ (by omega) (by omega), div_pow7 n j h0]
  unfold bv
  rw [mk8_toNat (Nat.mod_lt _ (by omega))]
  congr 1
  omega
theorem low_bits (n : Int) (h0 : 0 ≤ n) : (.int .u8 (bits .and .u8 (n % 256) 127) : Value) = bv (UInt8.ofNat (n.toNat % 128)) := by
  rw [u8_and127 _ (by omega) (by omega)]
  unfold bv
  congr 1
  simp only [UInt8.toNat_ofNat']
  omega
/-! ### a byte laid on a number whose low seven bits are zero -/
theorem or_low0 (v c : Nat) (hc : c < 128) (hv : 128 * v < 18446744073709551616) : bits .or .u64 ((128 * v : Nat) : Int) (c : Int) = ((128 * v + c : Nat) : Int) := by
  have e7 : (2 : Int) ^ 7 = 128 := by decide
  have e64 : (2 : Int) ^ 64 = 18446744073709551616 := by decide
  have h := bits_join .u64 64 (by decide) wraps_u64 7 ((128 * v : Nat) : Int) (c : Int) (by omega) (by rw [e7]; omega) (by rw [e64]; omega) (by omega) (by rw [e7]; omega) (by rw [e64]; omega)
  rw [h]
  omega
theorem or_low (v c : Nat) (hc : c < 128) (hv : v < 144115188075855872) : bits .or .u64 (128 * (v : Int)) (c : Int) = ((128 * v + c : Nat) : Int) := by
  have h := or_low0 v c hc (by omega)
  rwa [show ((128 * v : Nat) : Int) = 128 * (v : Int) from by omega] at h
theorem wrapU64 (x : Int) (h0 : 0 ≤ x) (h1 : x < 18446744073709551616) : IntKind.u64.wrap x = x := by
  rw [IntKind.wrap_u64]
  omega
theorem and_low (b : Nat) (h : b < 256) (h' : ¬ b < 128) : bits .and .u8 (b : Int) 127 = ((b - 128 : Nat) : Int) := by
  rw [u8_and127 _ (by omega) (by omega)]
  omega
end Go.Proofs.YtjgnapjhlhdgfaaDoor
