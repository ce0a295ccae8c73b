/- Records: the program's cursor: spans. -/
import Derived.Test.YtjgnapjhlhdgfaaRu
set_option linter.unusedVariables false
set_option linter.unusedSimpArgs false
namespace Go.Proofs.Ytjgnapjhlhdgfaa
open Go.RowKit

/-- What comes of reading spans. -/
def SpansPost (w : World) (bc : Nat) (ok : Nat → Prop) (R : Option (List (Int × Int) × List UInt8)) (e : Ending) (w' : World) : Prop :=
  (∃ l r v, R = some (l, r) ∧ e = .returned v ∧ w'.ownsRow w.heap.size 47 2 v l.length (sps l) ∧ Cur w' bc ok r ∧ Kp (fun g => g = bc) w w') ∨
  (R = none ∧ e = brk ∧ Kp (fun g => g = bc) w w')
theorem rdP_len : ∀ (m : Nat) {xs : List UInt8} {l : List (Int × Int)} {r : List UInt8}, rdP m xs = some (l, r) → l.length = m
  | 0, xs, l, r, h => by
    simp only [rdP, Option.some.injEq, Prod.mk.injEq] at h
    rw [← h.1]; rfl
  | m + 1, xs, l, r, h => by
    simp only [rdP] at h
    split at h
    · cases h
    · split at h
      · cases h
      · split at h
        · cases h
        · rename_i l' r' hr
          simp only [Option.some.injEq, Prod.mk.injEq] at h
          rw [← h.1, List.length_cons, rdP_len m hr]
/-- q of m spans have been read. -/
def SpInv (m q : Nat) (pre : List (Int × Int)) (zs : List UInt8) (R : Option (List (Int × Int) × List UInt8)) : Prop := (rdP (m - q) zs).map (fun p => (pre ++ p.1, p.2)) = R
theorem SpInv.done {m : Nat} {pre : List (Int × Int)} {zs : List UInt8} {R : Option (List (Int × Int) × List UInt8)} (h : SpInv m m pre zs R) : R = some (pre, zs) := by
  unfold SpInv at h
  rw [Nat.sub_self] at h
  simp only [rdP, Option.map_some, List.append_nil] at h
  exact h.symm
theorem SpInv.bad1 {m q : Nat} {pre : List (Int × Int)} {zs : List UInt8} {R : Option (List (Int × Int) × List UInt8)} (h : SpInv m q pre zs R) (hq : q < m) (hn : rdN zs = none) : R = none := by
  unfold SpInv at h
  rw [show m - q = (m - (q + 1)) + 1 from by omega] at h
  simp only [rdP, hn, Option.map_none] at h
  exact h.symm
theorem SpInv.bad2 {m q : Nat} {pre : List (Int × Int)} {zs : List UInt8} {R : Option (List (Int × Int) × List UInt8)} {f k : Nat} (h : SpInv m q pre zs R) (hq : q < m) (hn : rdN zs = some (f, k)) (hn2 : rdN (zs.drop k) = none) : R = none := by
  unfold SpInv at h
  rw [show m - q = (m - (q + 1)) + 1 from by omega] at h
  simp only [rdP, hn, hn2, Option.map_none] at h
  exact h.symm
theorem SpInv.step {m q : Nat} {pre : List (Int × Int)} {zs : List UInt8} {R : Option (List (Int × Int) × List UInt8)} {f k n k2 : Nat} (h : SpInv m q pre zs R) (hq : q < m) (hn : rdN zs = some (f, k)) (hn2 : rdN (zs.drop k) = some (n, k2)) :
    SpInv m (q + 1) (pre ++ [((f : Int), (f : Int) + (n : Int))]) ((zs.drop k).drop k2) R := by
  unfold SpInv at h ⊢
  rw [show m - q = (m - (q + 1)) + 1 from by omega] at h
  simp only [rdP, hn, hn2] at h
  rw [← h]
  cases rdP (m - (q + 1)) ((zs.drop k).drop k2) with
  | none => rfl
  | some p => simp

set_option maxRecDepth 100000 in
set_option maxHeartbeats 3200000 in
theorem curspans_any (bc : Nat) (ok : Nat → Prop) (xs : List UInt8) (m k : Nat) (w : World) (hcur : Cur w bc ok xs) (h : rdN xs = some (m, k)) (hm : m ≤ (xs.drop k).length) (hok : ∀ g, ok g → g < w.heap.size) :
    Calls Try.prog 36 #[.pointer (some ⟨bc, 0, none⟩)] w (SpansPost w bc ok (rdP m (xs.drop k))) := by
  have HN := Lib.hid (curnum_ok bc ok xs m k w hcur h)
  have es := Try.elSp
  have hbl := hcur.lt
  have hxl : xs.length ≤ 131072 := by obtain ⟨_, _, _, _, _, h, _⟩ := hcur; exact h
  clear hcur h
  have hyl : (xs.drop k).length ≤ 131072 := by rw [List.length_drop]; omega
  generalize xs.drop k = ys at *
  obtain ⟨R, hR⟩ : ∃ R, R = rdP m ys := ⟨_, rfl⟩
  rw [← hR]
  have hI : SpInv m 0 [] ys R := by
    unfold SpInv
    rw [hR, Nat.sub_zero]
    cases rdP m ys <;> simp
  have HI := Lib.hid hI
  clear hI hR
  go_enter Try.func36, Try.ntmps36
  go_wp2_with fail
  refine HN.out.mono ?_
  rintro e w1 ⟨rfl, hcur1, hk1⟩
  have hcur1' := hcur1
  obtain ⟨A, c, hb, hr, hc, hn, hk0⟩ := hcur1
  have hcl : w1.cell? ⟨bc, 0, none⟩ = some (.slice A ys.length c) := cell_of_row w1 bc 0 _ _ _ hb
  have hmz : decide ((ys.length : Int) < (m : Int)) = false := by simp; omega
  have hsz1 := hk1.size
  clear hb hr
  go_wp2_with fail
  clear hcl
  go_loopw [4, 18] (fun v i wr => ∃ (q : Nat) (pre : List (Int × Int)) (zs : List UInt8), q ≤ m ∧ i = .int .i64 q ∧ pre.length = q ∧ wr.ownsRow w1.heap.size 47 2 v q (sps pre) ∧ Cur wr bc ok zs ∧ Kp (fun g => g = bc) w1 wr ∧ Hid (SpInv m q pre zs R)) (fun _ i _ => m - (intOf i).toNat)
  case atStart => exact ⟨0, [], ys, by omega, rfl, rfl, World.ownsRow_nil _ _ _ _, hcur1', Kp.refl _ _, HI⟩
  case round =>
    obtain ⟨q, pre, zs, hq, rfl, hpl, hov, hcz, hkz, hinv⟩ := hrel
    have hszr := hkz.size
    by_cases hlt : q < m
    · have h1 : (q : Int) < (m : Int) := by omega
      cases hn1 : rdN zs with
      | none =>
        have hRn := hinv.out.bad1 hlt hn1
        subst hRn
        have HB := Lib.hid (curnum_bad bc ok zs wr hcz hn1)
        clear hn1
        go_wp2_with fail
        refine HB.out.mono ?_
        rintro e w3 ⟨rfl, rfl⟩
        unfold brk
        go_wp2_with fail
        exact ⟨rfl, .inr ⟨rfl, rfl, hk1.trans hkz fun _ _ e => e⟩⟩
      | some p1 =>
        obtain ⟨f, k1⟩ := p1
        have HN1 := Lib.hid (curnum_ok bc ok zs f k1 wr hcz hn1)
        have hfm := (rdN_some hn1).2.2.2.2
        cases hn2 : rdN (zs.drop k1) with
        | none =>
          have hRn := hinv.out.bad2 hlt hn1 hn2
          subst hRn
          have HN1B := Lib.hid hn2
          clear hn1 hn2
          go_wp2_with fail
          refine HN1.out.mono ?_
          rintro e w3 ⟨rfl, hc3, hk3⟩
          go_wp2_with fail
          refine (curnum_bad bc ok _ w3 hc3 HN1B.out).mono ?_
          rintro e w4 ⟨rfl, rfl⟩
          unfold brk
          go_wp2_with fail
          exact ⟨rfl, .inr ⟨rfl, rfl, hk1.trans (hkz.trans hk3 fun _ _ e => e) fun _ _ e => e⟩⟩
        | some p2 =>
          obtain ⟨n, k2⟩ := p2
          have HST := Lib.hid (hinv.out.step hlt hn1 hn2)
          have HN2 := Lib.hid hn2
          have hnm := (rdN_some hn2).2.2.2.2
          clear hn1 hn2
          go_wp2_with fail
          refine HN1.out.mono ?_
          rintro e w3 ⟨rfl, hc3, hk3⟩
          go_wp2_with fail
          refine (curnum_ok bc ok _ n k2 w3 hc3 HN2.out).mono ?_
          rintro e w4 ⟨rfl, hc4, hk4⟩
          have hk34 : Kp (fun g => g = bc) wr w4 := hk3.trans hk4 fun _ _ e => e
          have hov4 := own_kp hov hk34 (fun g hg e => by have := own_ge hov hg; omega)
          have hsz4 := hk34.size
          go_wp2_with (at_builtin; go_loud (refine wpList_app1 w4 _ _ rfl (.tmp 22) (.tmp 29) 24 47 rfl es w1.heap.size _ _ _ hov4 rfl 1 1 rfl rfl (by simp [Value.oneCell']) (by simp only [maxLen]; omega) (by omega) (by omega) ?_; intro v5 w5 ho5 hk5 ha5))
          have hc5 := hc4.kp hk5 (fun e => by have := own_ge hov4 e; omega) (fun g hg e => by have := own_ge hov4 e; have := hok g hg; omega)
          go_roundw
          case rel => exact ⟨_, _, _, ⟨q + 1, by omega, by go_num, pre ++ [((f : Int), (f : Int) + (n : Int))], by rw [List.length_append, hpl]; rfl, by rw [sps_app]; exact ho5, _, hc5, (hkz.trans hk34 fun _ _ e => e).trans hk5 (fun i hi e => by have := own_ge hov4 e; omega), HST⟩, rfl, rfl, rfl⟩
          case measure => simp [intOf]; omega
    · have hqm : q = m := by omega
      subst hqm
      have hRs := hinv.out.done
      subst hRs
      have h1 : ¬ ((q : Nat) : Int) < (q : Int) := by omega
      go_wp2_with fail
      go_ret
      exact .inl ⟨pre, zs, _, rfl, rfl, by rw [hpl]; exact own_base hov (fun g hg => by have := own_ge hov hg; omega), hcz, hk1.trans hkz fun _ _ e => e⟩

set_option maxRecDepth 100000 in
set_option maxHeartbeats 1600000 in
theorem curspans_bad (bc : Nat) (ok : Nat → Prop) (xs : List UInt8) (w : World) (hcur : Cur w bc ok xs) (h : ∀ m k, rdN xs = some (m, k) → (xs.drop k).length < m) :
    Calls Try.prog 36 #[.pointer (some ⟨bc, 0, none⟩)] w fun e w' => e = brk ∧ Kp (fun g => g = bc) w w' := by
  cases hq : rdN xs with
  | none =>
    have HN := Lib.hid (curnum_bad bc ok xs w hcur hq)
    clear hq h
    go_enter Try.func36, Try.ntmps36
    go_wp2_with fail
    refine HN.out.mono ?_
    rintro e w1 ⟨rfl, rfl⟩
    unfold brk
    go_wp2_with fail
    exact ⟨rfl, rfl, Kp.refl _ _⟩
  | some r =>
    obtain ⟨m, k⟩ := r
    have HN := Lib.hid (curnum_ok bc ok xs m k w hcur hq)
    have hlt := h m k hq
    clear hq h hcur
    generalize xs.drop k = ys at *
    go_enter Try.func36, Try.ntmps36
    go_wp2_with fail
    refine HN.out.mono ?_
    rintro e w1 ⟨rfl, hcur1, hk1⟩
    obtain ⟨A, c, hb, hr, hc, hn, hk0⟩ := hcur1
    have hcl : w1.cell? ⟨bc, 0, none⟩ = some (.slice A ys.length c) := cell_of_row w1 bc 0 _ _ _ hb
    have hmz : decide ((ys.length : Int) < (m : Int)) = true := by simp; omega
    clear hb hr
    go_wp2_with fail
    exact ⟨rfl, rfl, hk1⟩

end Go.Proofs.Ytjgnapjhlhdgfaa
