/- Frames: what is told of frames whole, cut, turned, and with bytes behind. Plain. -/
import Derived.Test.YtjgnapjhlhdgfaaDoorEa
set_option linter.unusedVariables false
set_option linter.unusedSimpArgs false
namespace Go.Proofs.YtjgnapjhlhdgfaaDoor
open Go.RowKit

theorem scF_fuel : ∀ (f g : Nat) (xs : List UInt8), xs.length ≤ f → xs.length ≤ g → scF f xs = scF g xs
  | 0, g, xs, h, _ => by
    have hx : xs = [] := List.eq_nil_of_length_eq_zero (by omega)
    subst hx
    cases g with
    | zero => rfl
    | succ g => simp only [scF, sc1_short (xs := []) (by simp)]
  | f + 1, 0, xs, _, h => by
    have hx : xs = [] := List.eq_nil_of_length_eq_zero (by omega)
    subst hx
    simp only [scF, sc1_short (xs := []) (by simp)]
  | f + 1, g + 1, xs, h1, h2 => by
    simp only [scF]
    cases hq : sc1 xs with
    | none => rfl
    | some q =>
      obtain ⟨s, k⟩ := q
      have hk := sc1_len hq
      have e := scF_fuel f g (xs.drop k) (by rw [List.length_drop]; omega) (by rw [List.length_drop]; omega)
      simp only [e]
theorem scn_none {xs : List UInt8} (h : sc1 xs = none) : scn xs = ([], 0) := scF_none h
theorem scn_some {xs : List UInt8} {s : RSt} {k : Nat} (h : sc1 xs = some (s, k)) : scn xs = (s :: (scn (xs.drop k)).1, k + (scn (xs.drop k)).2) := by
  have hk := sc1_len h
  unfold scn
  obtain ⟨f, hf⟩ : ∃ f, xs.length = f + 1 := ⟨xs.length - 1, by omega⟩
  rw [hf]
  simp only [scF, h]
  rw [scF_fuel f (xs.drop k).length (xs.drop k) (by rw [List.length_drop]; omega) (Nat.le_refl _)]

theorem v4_f4 (m : Nat) (t : List UInt8) (h : m < 4294967296) : v4 (f4 m ++ t) = m := by
  show (UInt8.ofNat (m / 16777216)).toNat * 16777216 + (UInt8.ofNat (m / 65536)).toNat * 65536 + (UInt8.ofNat (m / 256)).toNat * 256 + (UInt8.ofNat m).toNat = m
  simp only [UInt8.toNat_ofNat']
  omega
theorem v4_app {a : List UInt8} (t : List UInt8) (h : 4 ≤ a.length) : v4 (a ++ t) = v4 a := by
  rw [← v4_take (a ++ t), ← v4_take a, List.take_append_of_le_length h]
theorem v4_set {l : List UInt8} {i : Nat} {x : UInt8} (hi : i < 4) (hl : i < l.length) (hx : x ≠ l[i]) : v4 (l.set i x) ≠ v4 l := by
  have hxn : x.toNat ≠ (l[i]).toNat := fun e => hx (UInt8.toNat.inj e)
  have hg : l.getD i 0 = l[i] := by rw [List.getD_eq_getElem?_getD, List.getElem?_eq_getElem hl]; rfl
  have hs : ∀ j, (l.set i x).getD j 0 = if j = i then x else l.getD j 0 := fun j => by
    simp only [List.getD_eq_getElem?_getD, List.getElem?_set]
    by_cases hij : i = j
    · subst hij
      simp [hl]
    · simp [hij, Ne.symm hij]
  unfold v4
  rw [hs, hs, hs, hs]
  have h4 : i = 0 ∨ i = 1 ∨ i = 2 ∨ i = 3 := by omega
  rw [← hg] at hxn
  clear hg hs hx
  rcases h4 with rfl | rfl | rfl | rfl
  all_goals
    generalize l.getD 0 0 = b0 at *
    generalize l.getD 1 0 = b1 at *
    generalize l.getD 2 0 = b2 at *
    generalize l.getD 3 0 = b3 at *
    have q0 := b0.toNat_lt
    have q1 := b1.toNat_lt
    have q2 := b2.toNat_lt
    have q3 := b3.toNat_lt
    have qx := x.toNat_lt
    simp
    omega
theorem fr1_v4 (s : RSt) (t : List UInt8) (h : (prR s.a s.sp s.dt).length ≤ 131072) : v4 (fr1 s ++ t) = (prR s.a s.sp s.dt).length := by
  unfold fr1
  rw [List.append_assoc, List.append_assoc]
  exact v4_f4 _ _ (by omega)
theorem fr1_d4 (s : RSt) (t : List UInt8) : (fr1 s ++ t).drop 4 = f4 (Crc.sum (prR s.a s.sp s.dt)) ++ (prR s.a s.sp s.dt ++ t) := by
  unfold fr1
  rw [List.append_assoc, List.append_assoc]
  exact List.drop_left' (f4_len _)
theorem fr1_d8 (s : RSt) (t : List UInt8) : (fr1 s ++ t).drop 8 = prR s.a s.sp s.dt ++ t := by
  have e : (fr1 s ++ t).drop 8 = ((fr1 s ++ t).drop 4).drop 4 := by rw [List.drop_drop]
  rw [e, fr1_d4]
  exact List.drop_left' (f4_len _)
theorem sc1_fr1 {s : RSt} (t : List UInt8) (hok : okR s.a s.sp = true) (hw : s.sp.length = s.a.sn ∧ s.dt.length = s.a.dn) : sc1 (fr1 s ++ t) = some (nz s, (fr1 s).length) := by
  have hp := prR_small hok hw.1 hw.2
  have hv := fr1_v4 s t hp
  have hl : (fr1 s ++ t).length = 8 + (prR s.a s.sp s.dt).length + t.length := by rw [List.length_append, fr1_len]
  have ht : ((fr1 s ++ t).drop 8).take (v4 (fr1 s ++ t)) = prR s.a s.sp s.dt := by rw [fr1_d8, hv, List.take_left]
  rw [sc1_good (s := nz s) (by omega) (by rw [hv]; omega) (by rw [ht, fr1_d4]; exact (v4_f4 _ _ (Crc.sum_lt _)).symm) (by rw [ht]; exact rdR_prR hok hw.1 hw.2), hv, fr1_len]
theorem okL_cons {s : RSt} {l : List RSt} (h : okL (s :: l) = true) : okR s.a s.sp = true ∧ okL l = true := by
  unfold okL at *
  simpa using h
theorem Wf.cons {s : RSt} {l : List RSt} (h : Wf (s :: l)) : (s.sp.length = s.a.sn ∧ s.dt.length = s.a.dn) ∧ Wf l := ⟨h s List.mem_cons_self, fun t ht => h t (List.mem_cons_of_mem _ ht)⟩
/-- Frames ahead of anything. -/
theorem scn_frs : ∀ {L : List RSt} (t : List UInt8), okL L = true → Wf L → scn (frs L ++ t) = (L.map nz ++ (scn t).1, (frs L).length + (scn t).2)
  | [], t, _, _ => by simp [frs]
  | s :: l, t, h, hw => by
    have h1 := okL_cons h
    have h2 := hw.cons
    have ih := scn_frs t h1.2 h2.2
    rw [frs_cons, List.append_assoc, scn_some (sc1_fr1 _ h1.1 h2.1), List.drop_left, ih]
    simp [Nat.add_assoc]
theorem scn_all {L : List RSt} (h : okL L = true) (hw : Wf L) : scn (frs L) = (L.map nz, (frs L).length) := by
  have := scn_frs [] h hw
  rw [scn_none (xs := []) (sc1_short (by simp)), List.append_nil, List.append_nil, Nat.add_zero] at this
  exact this

theorem okL_take {L : List RSt} (h : okL L = true) (k : Nat) : okL (L.take k) = true := by
  unfold okL at *
  rw [List.all_eq_true] at *
  exact fun s hs => h s (List.mem_of_mem_take hs)
/-- Where the frame k begins. -/
def en (L : List RSt) (k : Nat) : Nat := (frs (L.take k)).length
theorem en_zero (L : List RSt) : en L 0 = 0 := rfl
theorem en_succ {L : List RSt} {k : Nat} {s : RSt} (h : L[k]? = some s) : en L (k + 1) = en L k + (fr1 s).length := by
  unfold en
  rw [take_snoc' h, frs_app, List.length_append]
  congr 1
  show (fr1 s ++ []).length = _
  rw [List.append_nil]
theorem en_all (L : List RSt) : en L L.length = (frs L).length := by unfold en; rw [List.take_length]
theorem en_le {L : List RSt} {i j : Nat} (h : i ≤ j) : en L i ≤ en L j := by
  unfold en
  have e : frs (L.take j) = frs (L.take i) ++ frs ((L.take j).drop i) := by
    rw [← frs_app]
    congr 1
    have h2 := List.take_append_drop i (L.take j)
    rw [List.take_take, Nat.min_eq_left h] at h2
    exact h2.symm
  rw [e, List.length_append]
  omega
theorem frs_split {L : List RSt} {k : Nat} {s : RSt} (h : L[k]? = some s) : frs L = frs (L.take k) ++ (fr1 s ++ frs (L.drop (k + 1))) := by
  have hk := (List.getElem?_eq_some_iff.1 h).1
  have e : L = L.take k ++ s :: L.drop (k + 1) := by
    have h1 := List.drop_eq_getElem_cons hk
    have h2 : L[k] = s := (List.getElem?_eq_some_iff.1 h).2
    rw [h2] at h1
    rw [← h1, List.take_append_drop]
  conv => lhs; rw [e]
  rw [frs_app, frs_cons]
/-- A beginning of a frame is none. -/
theorem sc1_cut {s : RSt} {j : Nat} (hp : (prR s.a s.sp s.dt).length ≤ 131072) (hj : j < (fr1 s).length) : sc1 ((fr1 s).take j) = none := by
  by_cases h8 : j < 8
  · exact sc1_short (by rw [List.length_take]; omega)
  · have hl : ((fr1 s).take j).length = j := by rw [List.length_take]; omega
    have hv : v4 ((fr1 s).take j) = (prR s.a s.sp s.dt).length := by
      have h1 := v4_app (a := (fr1 s).take j) ((fr1 s).drop j) (by omega)
      rw [List.take_append_drop] at h1
      have h2 := fr1_v4 s [] hp
      rw [List.append_nil] at h2
      rw [← h1, h2]
    rw [fr1_len] at hj
    exact sc1_big (by omega) (.inr (by rw [hl, hv]; omega))
theorem scn_cut {L : List RSt} {k c : Nat} (h : okL L = true) (hw : Wf L) (hk : k ≤ L.length) (h1 : en L k ≤ c) (h2 : k = L.length ∨ c < en L (k + 1)) : scn ((frs L).take c) = ((L.take k).map nz, en L k) := by
  by_cases hkl : k = L.length
  · subst hkl
    rw [en_all] at h1
    rw [List.take_of_length_le h1, List.take_length, scn_all h hw, en_all]
  · have hlt : k < L.length := by omega
    have hs : L[k]? = some L[k] := List.getElem?_eq_getElem hlt
    have hc : c < en L (k + 1) := by omega
    rw [en_succ hs] at hc
    have hm := hw _ (List.getElem_mem hlt)
    have hp := prR_small (okL_mem h (List.getElem_mem hlt)) hm.1 hm.2
    have e : (frs L).take c = frs (L.take k) ++ (fr1 L[k]).take (c - en L k) := by
      rw [frs_split hs]
      have hle : (frs (L.take k)).length ≤ c := h1
      rw [List.take_append, List.take_of_length_le hle]
      congr 1
      have hx : c - (frs (L.take k)).length ≤ (fr1 L[k]).length := by
        have : en L k = (frs (L.take k)).length := rfl
        omega
      rw [List.take_append_of_le_length hx]
      rfl
    rw [e, scn_frs _ (okL_take h k) (hw.take k), scn_none (sc1_cut hp (by omega))]
    simp [en]
/-- One byte of a sum or of a record is turned. -/
theorem sc1_turn {s : RSt} {i : Nat} {x : UInt8} (t : List UInt8) (hp : (prR s.a s.sp s.dt).length ≤ 131072) (h4 : 4 ≤ i) (hi : i < (fr1 s).length) (hx : x ≠ (fr1 s)[i]) : sc1 ((fr1 s).set i x ++ t) = none := by
  have hl := fr1_len s
  have e : (fr1 s).set i x = f4 (prR s.a s.sp s.dt).length ++ ((f4 (Crc.sum (prR s.a s.sp s.dt)) ++ prR s.a s.sp s.dt).set (i - 4) x) := by
    unfold fr1
    rw [List.append_assoc, List.set_append, if_neg (by rw [f4_len]; omega), f4_len]
  have hv : v4 ((fr1 s).set i x ++ t) = (prR s.a s.sp s.dt).length := by
    rw [e, List.append_assoc]
    exact v4_f4 _ _ (by omega)
  have hlen : ((fr1 s).set i x ++ t).length = 8 + (prR s.a s.sp s.dt).length + t.length := by rw [List.length_append, List.length_set, hl]
  have hd4 : ((fr1 s).set i x ++ t).drop 4 = ((f4 (Crc.sum (prR s.a s.sp s.dt)) ++ prR s.a s.sp s.dt).set (i - 4) x) ++ t := by
    rw [e, List.append_assoc]
    exact List.drop_left' (f4_len _)
  have hx' : (fr1 s)[i] = (f4 (Crc.sum (prR s.a s.sp s.dt)) ++ prR s.a s.sp s.dt)[i - 4]'(by rw [List.length_append, f4_len]; omega) := by
    have h1 : (fr1 s)[i]? = (f4 (Crc.sum (prR s.a s.sp s.dt)) ++ prR s.a s.sp s.dt)[i - 4]? := by
      unfold fr1
      rw [List.append_assoc, List.getElem?_append_right (by rw [f4_len]; omega), f4_len]
    rw [List.getElem?_eq_getElem hi, List.getElem?_eq_getElem (by rw [List.length_append, f4_len]; omega)] at h1
    exact Option.some.inj h1
  refine sc1_sum (by omega) (by rw [hv]; omega) ?_
  have hd8 : ((fr1 s).set i x ++ t).drop 8 = (((fr1 s).set i x ++ t).drop 4).drop 4 := by rw [List.drop_drop]
  rw [hv, hd8, hd4]
  by_cases h8 : i < 8
  · have hs : (f4 (Crc.sum (prR s.a s.sp s.dt)) ++ prR s.a s.sp s.dt).set (i - 4) x = (f4 (Crc.sum (prR s.a s.sp s.dt))).set (i - 4) x ++ prR s.a s.sp s.dt := by
      rw [List.set_append, if_pos (by rw [f4_len]; omega)]
    have hxx : x ≠ (f4 (Crc.sum (prR s.a s.sp s.dt)))[i - 4]'(by rw [f4_len]; omega) := by
      rw [hx', List.getElem_append_left (by rw [f4_len]; omega)] at hx
      exact hx
    have hne := v4_set (l := f4 (Crc.sum (prR s.a s.sp s.dt))) (i := i - 4) (by omega) (by rw [f4_len]; omega) hxx
    have hf := v4_f4 (Crc.sum (prR s.a s.sp s.dt)) [] (Crc.sum_lt _)
    rw [List.append_nil] at hf
    rw [hf] at hne
    have hd : (((f4 (Crc.sum (prR s.a s.sp s.dt))).set (i - 4) x ++ prR s.a s.sp s.dt) ++ t).drop 4 = prR s.a s.sp s.dt ++ t := by
      rw [List.append_assoc]
      exact List.drop_left' (by rw [List.length_set, f4_len])
    rw [hs, hd, List.take_left, List.append_assoc, v4_app _ (by rw [List.length_set, f4_len]; omega)]
    exact fun q => hne q.symm
  · have hs : (f4 (Crc.sum (prR s.a s.sp s.dt)) ++ prR s.a s.sp s.dt).set (i - 4) x = f4 (Crc.sum (prR s.a s.sp s.dt)) ++ (prR s.a s.sp s.dt).set (i - 8) x := by
      rw [List.set_append, if_neg (by rw [f4_len]; omega), f4_len]
      congr 1
    have hxx : x ≠ (prR s.a s.sp s.dt)[i - 8]'(by omega) := by
      rw [hx', List.getElem_append_right (by rw [f4_len]; omega)] at hx
      exact hx
    have hd : ((f4 (Crc.sum (prR s.a s.sp s.dt)) ++ (prR s.a s.sp s.dt).set (i - 8) x) ++ t).drop 4 = (prR s.a s.sp s.dt).set (i - 8) x ++ t := by
      rw [List.append_assoc]
      exact List.drop_left' (f4_len _)
    have htk : ((prR s.a s.sp s.dt).set (i - 8) x ++ t).take (prR s.a s.sp s.dt).length = (prR s.a s.sp s.dt).set (i - 8) x := List.take_left' (by rw [List.length_set])
    rw [hs, hd, htk, List.append_assoc, v4_f4 _ _ (Crc.sum_lt _)]
    intro q
    exact hxx ((Crc.sum_set _ _ (by omega) x).1 q)
theorem scn_turn {L : List RSt} {j p : Nat} {x : UInt8} (h : okL L = true) (hw : Wf L) (hj : j < L.length) (h1 : en L j + 4 ≤ p) (h2 : p < en L (j + 1)) (hpl : p < (frs L).length) (hx : x ≠ (frs L)[p]) :
    scn ((frs L).set p x) = ((L.take j).map nz, en L j) := by
  have hs : L[j]? = some L[j] := List.getElem?_eq_getElem hj
  have hm := hw _ (List.getElem_mem hj)
  have hp := prR_small (okL_mem h (List.getElem_mem hj)) hm.1 hm.2
  rw [en_succ hs] at h2
  have hen : en L j = (frs (L.take j)).length := rfl
  have e : (frs L).set p x = frs (L.take j) ++ ((fr1 L[j]).set (p - en L j) x ++ frs (L.drop (j + 1))) := by
    rw [frs_split hs, List.set_append, if_neg (by omega), List.set_append, if_pos (by omega)]
    rfl
  have hxx : x ≠ (fr1 L[j])[p - en L j]'(by omega) := by
    have h3 : (frs L)[p]? = (fr1 L[j])[p - en L j]? := by
      rw [frs_split hs, List.getElem?_append_right (by omega), List.getElem?_append_left (by omega)]
      rfl
    rw [List.getElem?_eq_getElem hpl, List.getElem?_eq_getElem (by omega)] at h3
    rw [← Option.some.inj h3]
    exact hx
  rw [e, scn_frs _ (okL_take h j) (hw.take j), scn_none (sc1_turn _ hp (by omega) (by omega) hxx)]
  simp [en]
end Go.Proofs.YtjgnapjhlhdgfaaDoor
