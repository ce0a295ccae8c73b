/- Plain arithmetic of layer 1, second part: no number's bytes begin another one's; they rise as the numbers rise. -/
import Derived.Test.YtcakjjbfhbldeaaSm
set_option linter.unusedVariables false
set_option linter.unusedSimpArgs false
namespace Go.Proofs.Ytcakjjbfhbldeaa

/-- Digit j from the top of a number of s digits. -/
def dig (a s j : Nat) : Nat := a / 128 ^ (s - 1 - j) % 128
theorem hi0_get (m : Nat) : ∀ j, j < sz0 m → (hi0 m)[j]? = some (mk8 (m / 128 ^ (sz0 m - 1 - j) % 128)) := by
  induction m using Nat.strongRecOn with
  | ind m ih =>
    intro j hj
    by_cases h0 : m = 0
    · subst h0; rw [sz0_zero] at hj; omega
    · rw [hi0_pos h0]
      have hs := sz0_pos h0
      by_cases hl : j < sz0 (m / 128)
      · rw [List.getElem?_append_left (by rw [hi0_len]; exact hl), ih _ (by omega) j hl, hs]
        have e : sz0 (m / 128) + 1 - 1 - j = (sz0 (m / 128) - 1 - j) + 1 := by omega
        rw [e, Nat.pow_succ', ← Nat.div_div_eq_div_mul]
      · have e : j = sz0 (m / 128) := by omega
        subst e
        rw [List.getElem?_append_right (by rw [hi0_len]; exact Nat.le_refl _), hi0_len, Nat.sub_self, hs]
        simp
theorem enc_get (a j : Nat) (hj : j < siz a) : (enc a)[j]? = some (if j + 1 = siz a then UInt8.ofNat (dig a (siz a) j) else mk8 (dig a (siz a) j)) := by
  unfold enc dig
  have hs : siz a = sz0 (a / 128) + 1 := rfl
  by_cases hl : j < sz0 (a / 128)
  · rw [List.getElem?_append_left (by rw [hi0_len]; exact hl), hi0_get _ j hl, if_neg (by omega)]
    have e : siz a - 1 - j = (sz0 (a / 128) - 1 - j) + 1 := by omega
    rw [e, Nat.pow_succ', ← Nat.div_div_eq_div_mul]
  · have e : j = sz0 (a / 128) := by omega
    rw [List.getElem?_append_right (by rw [hi0_len]; omega), hi0_len, e, Nat.sub_self, if_pos (by omega), hs]
    simp

theorem enc_get_toNat (a j : Nat) (hj : j < siz a) : ((enc a)[j]'(by rw [enc_len]; exact hj)).toNat = if j + 1 = siz a then dig a (siz a) j else dig a (siz a) j + 128 := by
  have h := enc_get a j hj
  rw [List.getElem?_eq_getElem (by rw [enc_len]; exact hj)] at h
  injection h with h
  rw [h]
  have hd : dig a (siz a) j < 128 := Nat.mod_lt _ (by omega)
  split
  · simp only [UInt8.toNat_ofNat']; omega
  · exact mk8_toNat hd

theorem top_eq {a b s i : Nat} (ha : a / 128 ^ s = 0) (hb : b / 128 ^ s = 0) (hi : i ≤ s) (h : ∀ j, j < i → dig a s j = dig b s j) : a / 128 ^ (s - i) = b / 128 ^ (s - i) := by
  induction i with
  | zero => rw [Nat.sub_zero, ha, hb]
  | succ i ih =>
    have h1 := ih (by omega) fun j hj => h j (by omega)
    have h2 := h i (by omega)
    unfold dig at h2
    have e : s - i = (s - (i + 1)) + 1 := by omega
    have e' : s - 1 - i = s - (i + 1) := by omega
    rw [e, Nat.pow_succ, ← Nat.div_div_eq_div_mul, ← Nat.div_div_eq_div_mul] at h1
    rw [e'] at h2
    omega
theorem div_siz (a : Nat) : a / 128 ^ siz a = 0 := by
  have := div_sz0 (a / 128)
  rwa [Nat.div_div_eq_div_mul, ← Nat.pow_succ'] at this

/-- Either the one list begins the other, or they differ first at a place. -/
theorem first_diff {α : Type} [DecidableEq α] : ∀ (l m : List α), (∃ t, m = l ++ t) ∨ (∃ t, l = m ++ t) ∨ ∃ i, ∃ (h1 : i < l.length) (h2 : i < m.length), (∀ j, j < i → l[j]? = m[j]?) ∧ l[i] ≠ m[i]
  | [], m => .inl ⟨m, rfl⟩
  | x :: l, [] => .inr (.inl ⟨x :: l, rfl⟩)
  | x :: l, y :: m => by
    by_cases h : x = y
    · subst h
      rcases first_diff l m with ⟨t, rfl⟩ | ⟨t, rfl⟩ | ⟨i, h1, h2, h3, h4⟩
      · exact .inl ⟨t, rfl⟩
      · exact .inr (.inl ⟨t, rfl⟩)
      · refine .inr (.inr ⟨i + 1, by simpa using h1, by simpa using h2, fun j hj => ?_, by simpa using h4⟩)
        cases j with
        | zero => rfl
        | succ j => simpa using h3 j (by omega)
    · exact .inr (.inr ⟨0, by simp, by simp, fun j hj => by omega, by simpa using h⟩)

/-- Of two numbers the bytes differ somewhere in both; the greater one's are more, or greater there. -/
theorem rises {a b : Nat} (hab : a < b) (hb : b < 18446744073709551616) :
    ∃ i, ∃ (h1 : i < (enc a).length) (h2 : i < (enc b).length), (∀ j, j < i → (enc a)[j]? = (enc b)[j]?) ∧ (enc a)[i].toNat ≠ (enc b)[i].toNat ∧ (siz a < siz b ∨ (enc a)[i].toNat < (enc b)[i].toNat) := by
  rcases first_diff (enc a) (enc b) with ⟨t, ht⟩ | ⟨t, ht⟩ | ⟨i, h1, h2, h3, h4⟩
  · have e1 := rdS_enc (n := b) [] hb
    rw [List.append_nil, ht, rdS_enc t (by omega)] at e1
    injection e1 with e1 _
    omega
  · have e1 := rdS_enc (n := a) [] (by omega)
    rw [List.append_nil, ht, rdS_enc t hb] at e1
    injection e1 with e1 _
    omega
  · have hne : (enc a)[i].toNat ≠ (enc b)[i].toNat := fun e => h4 (UInt8.toNat_inj.1 e)
    refine ⟨i, h1, h2, h3, hne, ?_⟩
    by_cases hs : siz a < siz b
    · exact .inl hs
    · have hle := siz_mono (Nat.le_of_lt hab)
      have hs' : siz a = siz b := by omega
      refine .inr ?_
      have i1 : i < siz a := by rwa [enc_len] at h1
      have i2 : i < siz b := by rwa [enc_len] at h2
      have hda : dig a (siz a) i < 128 := Nat.mod_lt _ (by omega)
      have hdb : dig b (siz b) i < 128 := Nat.mod_lt _ (by omega)
      have ga := enc_get_toNat a i i1
      have gb := enc_get_toNat b i i2
      have hjeq : ∀ j, j < i → dig a (siz a) j = dig b (siz a) j := by
        intro j hj
        have g1 := enc_get_toNat a j (by omega)
        have g2 := enc_get_toNat b j (by omega)
        have h := h3 j hj
        rw [List.getElem?_eq_getElem (by omega), List.getElem?_eq_getElem (by omega)] at h
        injection h with h
        rw [h, g2, ← hs'] at g1
        split at g1 <;> omega
      have htop := top_eq (div_siz a) (by rw [hs']; exact div_siz b) (by omega) hjeq
      rcases Nat.lt_or_ge (enc a)[i].toNat (enc b)[i].toNat with h | h
      · exact h
      · exfalso
        have hgt : dig b (siz a) i < dig a (siz a) i := by
          rw [ga, gb, ← hs'] at h
          rw [ga, gb, ← hs'] at hne
          split at h <;> rename_i hc <;> simp only [hc, if_true, if_false] at hne <;> omega
        unfold dig at hgt
        have e : siz a - i = (siz a - 1 - i) + 1 := by omega
        rw [e, Nat.pow_succ, ← Nat.div_div_eq_div_mul, ← Nat.div_div_eq_div_mul] at htop
        have hlt : b / 128 ^ (siz a - 1 - i) < a / 128 ^ (siz a - 1 - i) := by omega
        have hge : a / 128 ^ (siz a - 1 - i) ≤ b / 128 ^ (siz a - 1 - i) := Nat.div_le_div_right (by omega)
        omega

end Go.Proofs.Ytcakjjbfhbldeaa
