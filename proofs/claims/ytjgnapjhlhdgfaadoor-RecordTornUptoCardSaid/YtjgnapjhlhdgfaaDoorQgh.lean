/- Records: what is printed is read back. Plain. Records: helpers of the laws of reading. -/
import Derived.Test.YtjgnapjhlhdgfaaDoorRv
import Derived.Test.YtjgnapjhlhdgfaaDoorRm
import Derived.Test.YtjgnapjhlhdgfaaDoorQf
set_option linter.unusedVariables false
set_option linter.unusedSimpArgs false
namespace Go.Proofs.YtjgnapjhlhdgfaaDoor
open Go.RowKit

theorem eight {i : Nat} (h : i < 8) : i = 0 ∨ i = 1 ∨ i = 2 ∨ i = 3 ∨ i = 4 ∨ i = 5 ∨ i = 6 ∨ i = 7 := by omega
theorem num_setN (a : Rc) (f i : Nat) (x : Int) (hf : f < 8) (hi : i < 8) : (a.setN f x).num i = if i = f then x else a.num i := by
  rcases eight hf with rfl | rfl | rfl | rfl | rfl | rfl | rfl | rfl <;> rcases eight hi with rfl | rfl | rfl | rfl | rfl | rfl | rfl | rfl <;> rfl
theorem setN_rest (a : Rc) (f : Nat) (x : Int) : (a.setN f x).k = a.k ∧ (a.setN f x).sn = a.sn ∧ (a.setN f x).dn = a.dn ∧ (a.setN f x).S = a.S ∧ (a.setN f x).sc = a.sc ∧ (a.setN f x).D = a.D ∧ (a.setN f x).dc = a.dc := by
  unfold Rc.setN
  split <;> exact ⟨rfl, rfl, rfl, rfl, rfl, rfl, rfl⟩
theorem rc_ext {a b : Rc} (hk : a.k = b.k) (hn : ∀ i, i < 8 → a.num i = b.num i) (h1 : a.S = b.S) (h2 : a.sn = b.sn) (h3 : a.sc = b.sc) (h4 : a.D = b.D) (h5 : a.dn = b.dn) (h6 : a.dc = b.dc) : a = b := by
  have e0 := hn 0 (by omega)
  have e1 := hn 1 (by omega)
  have e2 := hn 2 (by omega)
  have e3 := hn 3 (by omega)
  have e4 := hn 4 (by omega)
  have e5 := hn 5 (by omega)
  have e6 := hn 6 (by omega)
  have e7 := hn 7 (by omega)
  cases a
  cases b
  simp only [Rc.num] at *
  subst hk h1 h2 h3 h4 h5 h6 e0 e1 e2 e3 e4 e5 e6 e7
  rfl

theorem drop_siz (n : Nat) (t : List UInt8) : (enc n ++ t).drop (siz n) = t := by
  rw [← enc_len, List.drop_left]

theorem spE_pos (s : Int × Int) : 1 ≤ (spE s).length := by
  unfold spE
  rw [List.length_append, enc_len, enc_len]
  have := siz_pos s.1.toNat
  omega
theorem flat_pos : ∀ l : List (Int × Int), l.length ≤ (l.flatMap spE).length
  | [] => by simp
  | s :: l => by
    have := flat_pos l
    have := spE_pos s
    rw [List.flatMap_cons, List.length_append, List.length_cons]
    omega
theorem rdP_sp : ∀ (l : List (Int × Int)) (t : List UInt8), (∀ s ∈ l, 0 ≤ s.1 ∧ s.1 < s.2 ∧ s.2 ≤ 4611686018427387903) → rdP l.length (l.flatMap spE ++ t) = some (l, t)
  | [], t, h => rfl
  | (x, y) :: l, t, h => by
    have hs := h (x, y) (by simp)
    simp only at hs
    rw [List.length_cons, List.flatMap_cons]
    have e : spE (x, y) = enc x.toNat ++ enc (y - x).toNat := rfl
    rw [e, List.append_assoc, List.append_assoc]
    simp only [rdP]
    rw [rdN_enc _ (by omega)]
    simp only
    rw [drop_siz, rdN_enc _ (by omega)]
    simp only
    rw [drop_siz, rdP_sp l t (fun s hs => h s (by simp [hs]))]
    simp only [Option.some.injEq, Prod.mk.injEq, List.cons.injEq, and_true]
    omega
theorem rdP_back : ∀ (m : Nat) {ys : List UInt8} {l : List (Int × Int)} {r : List UInt8}, rdP m ys = some (l, r) → ys = l.flatMap spE ++ r ∧ l.length = m
  | 0, ys, l, r, h => by
    simp only [rdP, Option.some.injEq, Prod.mk.injEq] at h
    rw [← h.1, ← h.2]
    exact ⟨rfl, rfl⟩
  | m + 1, ys, l, r, h => by
    simp only [rdP] at h
    split at h
    · cases h
    · rename_i f k hk
      split at h
      · cases h
      · rename_i n k2 hk2
        split at h
        · cases h
        · rename_i l' r' hr
          simp only [Option.some.injEq, Prod.mk.injEq] at h
          obtain ⟨rfl, rfl⟩ := h
          obtain ⟨h1, h2⟩ := rdP_back m hr
          refine ⟨?_, by rw [List.length_cons, h2]⟩
          have e : spE ((f : Int), (f : Int) + (n : Int)) = enc f ++ enc n := by
            unfold spE
            simp only
            rw [show ((f : Int) + (n : Int) - (f : Int)).toNat = n from by omega, Int.toNat_natCast]
          rw [List.flatMap_cons, e, List.append_assoc, List.append_assoc, ← h1, ← (rdN_some hk).2.2.2.1, ← (rdN_some hk2).2.2.2.1, List.take_append_drop, List.take_append_drop]

/-- These fields have been read. -/
structure Agr (a : Rc) (sp : List (Int × Int)) (dt : List UInt8) (done : Nat → Bool) (s : RSt) : Prop where
  k : s.a.k = a.k
  num : ∀ i, i < 8 → s.a.num i = if done i then a.num i else 0
  sn : s.a.sn = if done 8 then a.sn else 0
  dn : s.a.dn = if done 9 then a.dn else 0
  sp : s.sp = if done 8 then sp else []
  dt : s.dt = if done 9 then dt else []
  ptr : s.a.S = none ∧ s.a.sc = 0 ∧ s.a.D = none ∧ s.a.dc = 0
theorem rdF_itm {a : Rc} {sp : List (Int × Int)} {dt : List UInt8} (h : OkF a sp) (hs : sp.length = a.sn) (hd : dt.length = a.dn) {f : Nat} (hf : f ∈ fds a.k) {s : RSt} {t : List UInt8} {done : Nat → Bool}
    (hr : s.r = itm a sp dt f ++ t) (hA : Agr a sp dt done s) : ∃ s', rdF s f = some s' ∧ s'.r = t ∧ Agr a sp dt (fun i => i == f || done i) s' := by
  have hf10 := fds_lt a.k f hf
  by_cases h9 : f = 9
  · subst h9
    have hdn := h.dat hf
    have hi : itm a sp dt 9 = enc a.dn ++ dt := rfl
    rw [hi, List.append_assoc] at hr
    have hn := rdN_enc (n := a.dn) (dt ++ t) (by omega)
    have hnm : ∀ i, i < 8 → s.a.num i = if (i == 9 || done i) = true then a.num i else 0 := fun i hi => by
      have e : (i == 9) = false := by simp; omega
      simp only [e, Bool.false_or]
      exact hA.num i hi
    refine ⟨⟨{ s.a with dn := a.dn }, s.sp, dt, t⟩, ?_, rfl, ⟨hA.k, hnm, hA.sn, ?_, hA.sp, ?_, hA.ptr⟩⟩
    · unfold rdF
      rw [hr, hn]
      simp only
      rw [if_pos trivial, drop_siz, if_pos (by rw [List.length_append]; omega), ← hd, List.take_left, List.drop_left]
    · simp
    · simp
  · by_cases h8 : f = 8
    · subst h8
      have hsn := h.spn hf
      have hi : itm a sp dt 8 = enc a.sn ++ sp.flatMap spE := rfl
      rw [hi, List.append_assoc] at hr
      have hn := rdN_enc (n := a.sn) (sp.flatMap spE ++ t) (by omega)
      have hP := rdP_sp sp t (okS_all hsn.2)
      have hfp := flat_pos sp
      have hnm : ∀ i, i < 8 → s.a.num i = if (i == 8 || done i) = true then a.num i else 0 := fun i hi => by
        have e : (i == 8) = false := by simp; omega
        simp only [e, Bool.false_or]
        exact hA.num i hi
      refine ⟨⟨{ s.a with sn := a.sn }, sp, s.dt, t⟩, ?_, rfl, ⟨hA.k, hnm, ?_, hA.dn, ?_, hA.dt, hA.ptr⟩⟩
      · unfold rdF
        rw [hr, hn]
        simp only
        rw [if_neg (by omega), if_pos trivial, drop_siz, if_pos (by rw [List.length_append]; omega), ← hs, hP]
      · simp
      · simp
    · have hf8 : f < 8 := by omega
      have hnm := h.num f hf8
      have hi : itm a sp dt f = enc (a.num f).toNat := by
        unfold itm
        rw [if_neg h9, if_neg h8]
      rw [hi] at hr
      have hn := rdN_enc (n := (a.num f).toNat) t (by omega)
      have hst := setN_rest s.a f ((a.num f).toNat : Int)
      refine ⟨⟨s.a.setN f ((a.num f).toNat : Int), s.sp, s.dt, t⟩, ?_, rfl, ⟨?_, ?_, ?_, ?_, ?_, ?_, ?_⟩⟩
      · unfold rdF
        rw [hr, hn]
        simp only
        rw [if_neg h9, if_neg h8, drop_siz]
      · rw [hst.1]; exact hA.k
      · intro i hi
        rw [num_setN _ _ _ _ hf8 hi]
        by_cases e : i = f
        · subst e
          simp
          omega
        · rw [if_neg e, hA.num i hi]
          simp [e]
      · rw [hst.2.1, hA.sn]
        have : (8 == f) = false := by simp; omega
        simp [this]
      · rw [hst.2.2.1, hA.dn]
        have : (9 == f) = false := by simp; omega
        simp [this]
      · rw [hA.sp]
        have : (8 == f) = false := by simp; omega
        simp [this]
      · rw [hA.dt]
        have : (9 == f) = false := by simp; omega
        simp [this]
      · rw [hst.2.2.2.1, hst.2.2.2.2.1, hst.2.2.2.2.2.1, hst.2.2.2.2.2.2]
        exact hA.ptr
theorem rdL_itm {a : Rc} {sp : List (Int × Int)} {dt : List UInt8} (h : OkF a sp) (hs : sp.length = a.sn) (hd : dt.length = a.dn) :
    ∀ (l : List Nat), (∀ f ∈ l, f ∈ fds a.k) → ∀ (s : RSt) (t : List UInt8) (done : Nat → Bool), s.r = l.flatMap (itm a sp dt) ++ t → Agr a sp dt done s →
      ∃ s', rdL l s = some s' ∧ s'.r = t ∧ Agr a sp dt (fun i => l.contains i || done i) s'
  | [], _, s, t, done, hr, hA => ⟨s, rfl, by simpa using hr, by simpa using hA⟩
  | f :: l, hl, s, t, done, hr, hA => by
    rw [List.flatMap_cons, List.append_assoc] at hr
    obtain ⟨s1, h1, h2, h3⟩ := rdF_itm h hs hd (hl f (by simp)) hr hA
    obtain ⟨s2, h4, h5, h6⟩ := rdL_itm h hs hd l (fun g hg => hl g (by simp [hg])) s1 t _ h2 h3
    refine ⟨s2, by simp only [rdL, h1, Option.bind_some]; exact h4, h5, ?_⟩
    have e : (fun i => (f :: l).contains i || done i) = (fun i => l.contains i || (i == f || done i)) := by
      funext i
      rw [List.contains_cons]
      cases (i == f) <;> cases l.contains i <;> simp
    rw [e]
    exact h6

theorem okR_more {a : Rc} {sp : List (Int × Int)} (h : okR a sp = true) : (9 ∉ fds a.k → a.dn = 0) ∧ (8 ∉ fds a.k → a.sn = 0) ∧ (∀ i, i < 8 → i ∉ fds a.k → a.num i = 0) := by
  unfold okR at h
  simp only [Bool.and_eq_true] at h
  obtain ⟨⟨⟨⟨⟨⟨h1, h2⟩, h3⟩, h4⟩, h5⟩, h6⟩, h7⟩ := h
  refine ⟨fun h9 => ?_, fun h8 => ?_, fun i hi hni => ?_⟩
  · have : (fds a.k).contains 9 = false := by simpa using h9
    rw [this, Bool.false_or] at h2
    exact of_decide_eq_true h2
  · have : (fds a.k).contains 8 = false := by simpa using h8
    rw [this, Bool.false_or] at h3
    exact of_decide_eq_true h3
  · have := (List.all_eq_true.1 h4) i (List.mem_range.2 hi)
    unfold numOk at this
    rw [Bool.and_eq_true] at this
    have h8 := this.2
    have hc : (fds a.k).contains i = false := by simpa using hni
    rw [hc, Bool.false_or] at h8
    exact of_decide_eq_true h8
/-- What is printed is read as it was. -/
theorem rdR_prR {a : Rc} {sp : List (Int × Int)} {dt : List UInt8} (hok : okR a sp = true) (hs : sp.length = a.sn) (hd : dt.length = a.dn) :
    rdR (prR a sp dt) = some ⟨a.at_ none 0 none 0, sp, dt, []⟩ := by
  have h := okR_f hok
  have hk : ((UInt8.ofNat a.k.toNat).toNat : Int) = a.k := by
    rw [UInt8.toNat_ofNat']
    have := h.kind
    omega
  have h0 : Agr a sp dt (fun _ => false) (rd0 (UInt8.ofNat a.k.toNat) ((fds a.k).flatMap (itm a sp dt))) :=
    ⟨hk, fun i hi => by rcases eight hi with rfl | rfl | rfl | rfl | rfl | rfl | rfl | rfl <;> rfl, rfl, rfl, rfl, rfl, ⟨rfl, rfl, rfl, rfl⟩⟩
  obtain ⟨s, h1, h2, h3⟩ := rdL_itm h hs hd (fds a.k) (fun f hf => hf) (rd0 (UInt8.ofNat a.k.toNat) ((fds a.k).flatMap (itm a sp dt))) [] (fun _ => false) (by rw [List.append_nil]; rfl) h0
  obtain ⟨h9, h8, hn⟩ := okR_more hok
  have ha : s.a = a.at_ none 0 none 0 := by
    refine rc_ext h3.k (fun i hi => ?_) h3.ptr.1 ?_ h3.ptr.2.1 h3.ptr.2.2.1 ?_ h3.ptr.2.2.2
    · rw [h3.num i hi]
      show _ = a.num i
      by_cases hc : i ∈ fds a.k
      · simp [hc]
      · simp [hc, hn i hi hc]
    · rw [h3.sn]
      show _ = a.sn
      by_cases hc : 8 ∈ fds a.k
      · simp [hc]
      · simp [hc, h8 hc]
    · rw [h3.dn]
      show _ = a.dn
      by_cases hc : 9 ∈ fds a.k
      · simp [hc]
      · simp [hc, h9 hc]
  have hsp : s.sp = sp := by
    rw [h3.sp]
    by_cases hc : 8 ∈ fds a.k
    · simp [hc]
    · have := h8 hc
      rw [this] at hs
      simp [hc, List.length_eq_zero_iff.1 hs]
  have hdt : s.dt = dt := by
    rw [h3.dt]
    by_cases hc : 9 ∈ fds a.k
    · simp [hc]
    · have := h9 hc
      rw [this] at hd
      simp [hc, List.length_eq_zero_iff.1 hd]
  have hss : s = ⟨a.at_ none 0 none 0, sp, dt, []⟩ := by
    cases s
    simp only at ha hsp hdt h2
    rw [ha, hsp, hdt, h2]
  unfold prR rdR
  simp only
  rw [hk, h1]
  simp only
  rw [hss]
  exact if_pos ⟨rfl, hok⟩

/-- A read list of fields is the bytes that were read. -/
theorem itm_setN (a : Rc) (sp : List (Int × Int)) (dt : List UInt8) (f g : Nat) (x : Int) (hf : f < 8) (hg : g < 10) (hne : g ≠ f) : itm (a.setN f x) sp dt g = itm a sp dt g := by
  have hst := setN_rest a f x
  unfold itm
  rw [hst.2.1, hst.2.2.1]
  by_cases h9 : g = 9
  · rw [if_pos h9, if_pos h9]
  · by_cases h8 : g = 8
    · rw [if_neg h9, if_pos h8, if_neg h9, if_pos h8]
    · rw [if_neg h9, if_neg h8, if_neg h9, if_neg h8, num_setN _ _ _ _ hf (by omega), if_neg hne]
theorem rdF_back {s s1 : RSt} {f : Nat} (hf : f < 10) (h : rdF s f = some s1) (hl : s.sp.length = s.a.sn ∧ s.dt.length = s.a.dn) :
    s.r = itm s1.a s1.sp s1.dt f ++ s1.r ∧ (∀ g, g < 10 → g ≠ f → itm s1.a s1.sp s1.dt g = itm s.a s.sp s.dt g) ∧ (s1.sp.length = s1.a.sn ∧ s1.dt.length = s1.a.dn) ∧ s1.a.k = s.a.k := by
  unfold rdF at h
  cases hn : rdN s.r with
  | none => rw [hn] at h; cases h
  | some nk =>
    obtain ⟨n, k⟩ := nk
    rw [hn] at h
    simp only at h
    have htk := (rdN_some hn).2.2.2.1
    by_cases h9 : f = 9
    · subst h9
      rw [if_pos rfl] at h
      split at h
      · rename_i hle
        simp only [Option.some.injEq] at h
        subst h
        refine ⟨?_, fun g hg hne => ?_, ⟨hl.1, by rw [List.length_take]; exact Nat.min_eq_left hle⟩, rfl⟩
        · have e : ∀ (q : Rc) (dd : List UInt8), itm { q with dn := n } s.sp dd 9 = enc n ++ dd := fun _ _ => rfl
          simp only [e]
          rw [← htk, List.append_assoc, List.take_append_drop, List.take_append_drop]
        · unfold itm
          rw [if_neg hne, if_neg hne]
          by_cases h8 : g = 8
          · rw [if_pos h8, if_pos h8]
          · rw [if_neg h8, if_neg h8]
            rcases eight (i := g) (by omega) with rfl | rfl | rfl | rfl | rfl | rfl | rfl | rfl <;> rfl
      · cases h
    · rw [if_neg h9] at h
      by_cases h8 : f = 8
      · subst h8
        rw [if_pos rfl] at h
        split at h
        · cases hP : rdP n (s.r.drop k) with
          | none => rw [hP] at h; cases h
          | some lr =>
            obtain ⟨l, r⟩ := lr
            rw [hP] at h
            simp only [Option.some.injEq] at h
            subst h
            obtain ⟨h1, h2⟩ := rdP_back n hP
            refine ⟨?_, fun g hg hne => ?_, ⟨h2, hl.2⟩, rfl⟩
            · have e : ∀ (q : Rc) (dd : List UInt8), itm { q with sn := n } l dd 8 = enc n ++ l.flatMap spE := fun _ _ => rfl
              simp only [e]
              rw [← htk, List.append_assoc, ← h1, List.take_append_drop]
            · unfold itm
              by_cases hg9 : g = 9
              · rw [if_pos hg9, if_pos hg9]
              · rw [if_neg hg9, if_neg hne, if_neg hg9, if_neg hne]
                rcases eight (i := g) (by omega) with rfl | rfl | rfl | rfl | rfl | rfl | rfl | rfl <;> rfl
        · cases h
      · rw [if_neg h8] at h
        simp only [Option.some.injEq] at h
        subst h
        have hst := setN_rest s.a f (n : Int)
        refine ⟨?_, fun g hg hne => itm_setN _ _ _ _ _ _ (by omega) hg hne, ⟨by rw [hst.2.1]; exact hl.1, by rw [hst.2.2.1]; exact hl.2⟩, hst.1⟩
        show s.r = itm (s.a.setN f n) s.sp s.dt f ++ s.r.drop k
        unfold itm
        rw [if_neg h9, if_neg h8, num_setN _ _ _ _ (by omega) (by omega), if_pos rfl, Int.toNat_natCast, ← htk, List.take_append_drop]
theorem rdL_back : ∀ (l : List Nat) {s s1 : RSt}, l.Nodup → (∀ f ∈ l, f < 10) → rdL l s = some s1 → (s.sp.length = s.a.sn ∧ s.dt.length = s.a.dn) →
    s.r = l.flatMap (itm s1.a s1.sp s1.dt) ++ s1.r ∧ (∀ g, g < 10 → g ∉ l → itm s1.a s1.sp s1.dt g = itm s.a s.sp s.dt g) ∧ (s1.sp.length = s1.a.sn ∧ s1.dt.length = s1.a.dn) ∧ s1.a.k = s.a.k
  | [], s, s1, hn, hf, h, hl => by
    simp only [rdL, Option.some.injEq] at h
    subst h
    exact ⟨rfl, fun g _ _ => rfl, hl, rfl⟩
  | f :: l, s, s1, hn, hf, h, hl => by
    simp only [rdL] at h
    cases hF : rdF s f with
    | none => rw [hF] at h; cases h
    | some s2 =>
      rw [hF] at h
      simp only [Option.bind_some] at h
      have hf10 := hf f (by simp)
      obtain ⟨h1, h2, h3, h4⟩ := rdF_back hf10 hF hl
      obtain ⟨h5, h6, h7, h8⟩ := rdL_back l (List.nodup_cons.1 hn).2 (fun g hg => hf g (by simp [hg])) h h3
      refine ⟨?_, fun g hg hne => ?_, h7, h8.trans h4⟩
      · rw [List.flatMap_cons, h6 f hf10 (List.nodup_cons.1 hn).1, List.append_assoc, ← h5]
        exact h1
      · rw [h6 g hg (fun e => hne (by simp [e])), h2 g hg (fun e => hne (by simp [e]))]
theorem fds_nodup (k : Int) : (fds k).Nodup := by
  unfold fds
  repeat' split
  all_goals decide
/-- What is read is what would be printed. -/
theorem prR_rdR {xs : List UInt8} {s : RSt} (h : rdR xs = some s) : okR s.a s.sp = true ∧ prR s.a s.sp s.dt = xs ∧ s.sp.length = s.a.sn ∧ s.dt.length = s.a.dn := by
  cases xs with
  | nil => cases h
  | cons b r =>
    unfold rdR at h
    simp only at h
    cases hL : rdL (fds (b.toNat : Int)) (rd0 b r) with
    | none => rw [hL] at h; cases h
    | some s1 =>
      rw [hL] at h
      simp only at h
      split at h
      · rename_i hc
        simp only [Option.some.injEq] at h
        subst h
        obtain ⟨h1, h2, h3, h4⟩ := rdL_back _ (fds_nodup _) (fds_lt _) hL ⟨rfl, rfl⟩
        have hk : s1.a.k = (b.toNat : Int) := h4
        refine ⟨hc.2, ?_, h3⟩
        unfold prR
        rw [hk, Int.toNat_natCast, UInt8.ofNat_toNat]
        rw [hc.1, List.append_nil] at h1
        rw [← h1]
        rfl
      · cases h
theorem prR_small {a : Rc} {sp : List (Int × Int)} {dt : List UInt8} (hok : okR a sp = true) (hs : sp.length = a.sn) (hd : dt.length = a.dn) : (prR a sp dt).length ≤ 131072 := by
  have h := okR_f hok
  have hnum : ∀ i, i < 8 → (itm a sp dt i).length ≤ 10 := fun i hi => by
    unfold itm
    rw [if_neg (by omega), if_neg (by omega)]
    exact enc_le (by have := h.num i hi; omega)
  have h9 : 9 ∈ fds a.k → (itm a sp dt 9).length ≤ 65546 := fun hm => by
    have := h.dat hm
    have he := enc_le (n := a.dn) (by omega)
    show (enc a.dn ++ dt).length ≤ _
    rw [List.length_append]
    omega
  have h8 : 8 ∈ fds a.k → (itm a sp dt 8).length ≤ 10010 := fun hm => by
    have := h.spn hm
    have he := enc_le (n := a.sn) (by omega)
    have := spE_all (okS_all this.2)
    show (enc a.sn ++ sp.flatMap spE).length ≤ _
    rw [List.length_append]
    omega
  have n0 := hnum 0 (by omega)
  have n1 := hnum 1 (by omega)
  have n2 := hnum 2 (by omega)
  have n3 := hnum 3 (by omega)
  have n4 := hnum 4 (by omega)
  have n5 := hnum 5 (by omega)
  have n6 := hnum 6 (by omega)
  have n7 := hnum 7 (by omega)
  unfold prR
  rw [List.length_cons]
  revert h9 h8
  unfold fds
  repeat' split
  all_goals
    intro h9 h8
    simp at h9 h8 ⊢
    try omega

end Go.Proofs.YtjgnapjhlhdgfaaDoor

namespace Go.Proofs.YtjgnapjhlhdgfaaDoor
open Go.RowKit

theorem row_new (W : World) (Z C : Array Value) (t : TypeId) : ((W.alloc (.cells Z t)).setRow W.heap.size C).heap[W.heap.size]? = some (.cells C t (0, 0)) ∧ Nw W ((W.alloc (.cells Z t)).setRow W.heap.size C) := by
  obtain ⟨h1, h2⟩ := row_set (cs := C) (heap_alloc_new W (.cells Z t))
  refine ⟨h1, Kp.trans (S := fun _ => False) ((Kp.refl _ W).alloc _) h2 fun i hi e => ?_⟩
  omega
theorem Rd.inb {w : World} {size n : Nat} {A : Option Addr} {xs : List Value} (h : Rd w (fun _ => True) size A n xs) (hs : 0 < size) : Rd w (fun g => g < w.heap.size) size A n xs := by
  refine ⟨h.1, fun hn => ?_⟩
  obtain ⟨ad, e, _, hc⟩ := h.2 hn
  refine ⟨ad, e, ?_, hc⟩
  have hl : 0 < xs.length := by rw [h.1]; exact Nat.mul_pos (by omega) hs
  have := hc 0 xs[0] (List.getElem?_eq_getElem hl)
  exact World.block_lt_of_cell? _ _ this
theorem rdR_bound {xs : List UInt8} {s : RSt} (h : rdR xs = some s) : s.a.sn ≤ 65536 ∧ s.a.dn ≤ 65536 := by
  obtain ⟨h1, h2, h3, h4⟩ := prR_rdR h
  have hf := okR_f h1
  obtain ⟨m1, m2, m3⟩ := okR_more h1
  refine ⟨?_, ?_⟩
  · by_cases hc : 8 ∈ fds s.a.k
    · have := hf.spn hc
      omega
    · rw [m2 hc]; omega
  · by_cases hc : 9 ∈ fds s.a.k
    · exact hf.dat hc
    · rw [m1 hc]; omega

/-- What was read lies between these blocks. -/
structure Got (lo hi : Nat) (W : World) (s : RSt) (S : Option Addr) (sc : Nat) (D : Option Addr) (dc : Nat) : Prop where
  os : W.ownsRow lo 56 2 (.slice S s.a.sn sc) s.a.sn (sps s.sp)
  od : W.ownsRow lo 5 1 (.slice D s.a.dn dc) s.a.dn (bys s.dt)
  hs : ∀ g, (Value.slice S s.a.sn sc).ownBlock = some g → g < hi
  hd : ∀ g, (Value.slice D s.a.dn dc).ownBlock = some g → g < hi
section
variable {lo hi lo' hi' : Nat} {W W' : World} {s : RSt} {S S' : Option Addr} {sc sc' : Nat} {D D' : Option Addr} {dc dc' : Nat}
theorem Got.kp {X : Nat → Prop} (h : Got lo hi W s S sc D dc) (k : Kp X W W') (hX : ∀ g, lo ≤ g → g < hi → ¬ X g) : Got lo hi W' s S sc D dc :=
  ⟨own_kp h.os k fun g hg => hX g (own_ge h.os hg) (h.hs g hg), own_kp h.od k fun g hg => hX g (own_ge h.od hg) (h.hd g hg), h.hs, h.hd⟩
theorem Got.nw (h : Got lo hi W s S sc D dc) (k : Nw W W') : Got lo hi W' s S sc D dc := h.kp k fun _ _ _ e => e
theorem Got.mk' (h1 : W.ownsRow lo 56 2 (.slice S s.a.sn sc) s.a.sn (sps s.sp)) (h2 : W.ownsRow lo 5 1 (.slice D s.a.dn dc) s.a.dn (bys s.dt)) : Got lo W.heap.size W s S sc D dc :=
  ⟨h1, h2, fun g hg => own_lt h1 hg, fun g hg => own_lt h2 hg⟩
theorem same_got (h1 : Got lo hi W s S sc D dc) (h2 : Got lo' hi' W s S' sc' D' dc') (hb : s.a.sn ≤ 65536 ∧ s.a.dn ≤ 65536) :
    Calls Tryd.prog 30 #[.agg (s.a.at_ S sc D dc).cells, .agg (s.a.at_ S' sc' D' dc').cells] W fun e w' => e = .returned (.bool true) ∧ Nw W w' :=
  same_any (s.a.at_ S sc D dc) S' sc' D' dc' _ _ _ _ s.sp s.dt W (own_slice h1.os) (own_slice h1.od) (own_slice h2.os) (own_slice h2.od) (by show s.a.sn ≤ _; omega) (by show s.a.dn ≤ _; omega)
end
theorem turnB {w : World} {base e g n m cap : Nat} {l : List UInt8} {k : Nat} {a : Int} (h : w.ownsRow base e 1 (.slice (some ⟨g, 0, none⟩) (m + n) cap) (m + n) (bys [] ++ bys l)) (hl : l.length = n) (hk : k < n) (h0 : 0 ≤ a) (h1 : a < 256) :
    (∃ v, w.cell? ⟨g, k, none⟩ = some v) ∧ w.frozen? ⟨g, k, none⟩ = false ∧
      Hid ((w.setCell ⟨g, k, none⟩ (.int .u8 a)).ownsRow base e 1 (.slice (some ⟨g, 0, none⟩) (m + n) cap) (m + n) (bys (l.set k (UInt8.ofNat a.toNat))) ∧ Kp (fun i => i = g) w (w.setCell ⟨g, k, none⟩ (.int .u8 a))) := by
  have hb : (.int .u8 a : Value) = bv (UInt8.ofNat a.toNat) := bv_mk h0 h1
  have hst := h.stored k (bv (UInt8.ofNat a.toNat))
  have e1 : bys [] ++ bys l = bys l := rfl
  rw [e1] at h hst
  rw [bys_set, ← hb] at hst
  exact ⟨⟨_, own_at h (List.getElem?_eq_getElem (by rw [bys_len]; omega))⟩, h.frozenAt _, hst.1, (Kp.of_grown hst.2).mono fun i _ e => by injection e⟩
theorem rdO_bound (xs : List UInt8) : (rdO xs).1.a.sn ≤ 65536 ∧ (rdO xs).1.a.dn ≤ 65536 := by
  unfold rdO
  split
  · exact ⟨Nat.zero_le _, Nat.zero_le _⟩
  · cases hq : rdR xs with
    | none => exact ⟨Nat.zero_le _, Nat.zero_le _⟩
    | some s => exact rdR_bound hq

end Go.Proofs.YtjgnapjhlhdgfaaDoor
