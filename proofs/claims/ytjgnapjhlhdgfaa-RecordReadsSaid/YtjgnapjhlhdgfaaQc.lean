/- Records: the reference's reader: spans. -/
import Derived.Test.YtjgnapjhlhdgfaaQb
set_option linter.unusedVariables false
set_option linter.unusedSimpArgs false
namespace Go.Proofs.Ytjgnapjhlhdgfaa
open Go.RowKit

/-- No list of spans comes of it that is in order. -/
def SpBad (R : Option (List (Int × Int) × List UInt8)) : Prop := ∀ l r, R = some (l, r) → ∃ s ∈ l, (4611686018427387903 : Int) < s.2
theorem SpBad.none : SpBad none := fun l r h => by cases h
theorem SpInv.over {m q : Nat} {pre : List (Int × Int)} {zs : List UInt8} {R : Option (List (Int × Int) × List UInt8)} {s : Int × Int} (h : SpInv m q (pre ++ [s]) zs R) (hs : (4611686018427387903 : Int) < s.2) : SpBad R := by
  intro l r e
  unfold SpInv at h
  rw [e] at h
  cases hx : rdP (m - q) zs with
  | none => rw [hx] at h; cases h
  | some p =>
    rw [hx] at h
    simp only [Option.map_some, Option.some.injEq, Prod.mk.injEq] at h
    exact ⟨s, by rw [← h.1]; simp, hs⟩
/-- What comes of reading spans. -/
def SpaPost (w : World) (rb : Nat) (A : Option Addr) (c : Nat) (ok : Nat → Prop) (xs : List UInt8) (at_ : Nat) (e : Ending) (w' : World) : Prop :=
  ((∃ (m k : Nat) (l : List (Int × Int)) (p : Nat) (v : Value), rdN (xs.drop at_) = some (m, k) ∧ rdP m ((xs.drop at_).drop k) = some (l, xs.drop p) ∧ e = .returned v ∧ w'.ownsRow w.heap.size 47 2 v l.length (sps l) ∧ l.length ≤ 131080 ∧
      Rdr w' rb A c ok xs p false) ∨
    ((∀ m k, rdN (xs.drop at_) = some (m, k) → SpBad (rdP m ((xs.drop at_).drop k))) ∧ ∃ (l : List (Int × Int)) (v : Value) (j : Nat), e = .returned v ∧ w'.ownsRow w.heap.size 47 2 v l.length (sps l) ∧ l.length ≤ 131080 ∧
      Rdr w' rb A c ok xs j true)) ∧ Kp (fun g => g = rb) w w'

set_option maxRecDepth 100000 in
set_option maxHeartbeats 3200000 in
theorem refspans_idle (rb : Nat) (A : Option Addr) (c : Nat) (ok : Nat → Prop) (xs : List UInt8) (at_ : Nat) (w : World) (h : Rdr w rb A c ok xs at_ true) :
    Calls Try.prog 31 #[.pointer (some ⟨rb, 0, none⟩)] w fun e w' => e = .returned (.slice none 0 0) ∧ w = w' := by
  obtain ⟨hc0, hc1, hc2, hfz⟩ := h.cell
  have HI := Lib.hid (refget_idle rb A c ok xs at_ w h)
  clear h hfz
  go_enter Try.func31, Try.ntmps31
  go_wp2_with fail
  refine HI.out.mono ?_
  rintro e w1 ⟨rfl, rfl⟩
  go_wp2_with fail
  go_loopw [4, 5] (fun x4 x5 wr => x4 = .slice none 0 0 ∧ x5 = .int .i64 0 ∧ w = wr) (fun _ _ _ => 0)
  case atStart => exact ⟨rfl, rfl, rfl⟩
  case round =>
    obtain ⟨rfl, rfl, rfl⟩ := hrel
    go_wp2_with fail
    go_ret
    exact ⟨rfl, rfl⟩

/-- What is known ahead of a round. -/
structure SpaInv (w1 wr : World) (rb : Nat) (A : Option Addr) (c : Nat) (ok : Nat → Prop) (xs : List UInt8) (m : Nat) (R : Option (List (Int × Int) × List UInt8)) (i : Nat) (v : Value) (pre : List (Int × Int)) (p : Nat) (bad : Bool) : Prop where
  len : pre.length = i
  le : i ≤ 131080
  own : wr.ownsRow w1.heap.size 47 2 v i (sps pre)
  rdr : Rdr wr rb A c ok xs p bad
  kp : Kp (fun g => g = rb) w1 wr
  yes : bad = false → i ≤ m ∧ i ≤ p ∧ SpInv m i pre (xs.drop p) R
  no : bad = true → SpBad R

set_option maxRecDepth 100000 in
set_option maxHeartbeats 6400000 in
theorem refspans_any (rb : Nat) (A : Option Addr) (c : Nat) (ok : Nat → Prop) (xs : List UInt8) (at_ : Nat) (w : World) (h : Rdr w rb A c ok xs at_ false) (hok : ∀ g, ok g → g < w.heap.size) :
    Calls Try.prog 31 #[.pointer (some ⟨rb, 0, none⟩)] w (SpaPost w rb A c ok xs at_) := by
  have HG := Lib.hid (refget_any rb A c ok xs at_ w h)
  have es := Try.elSp
  have hlt := h.lt
  have hHN := h.hn
  clear h
  go_enter Try.func31, Try.ntmps31
  go_wp2_with fail
  refine HG.out.mono ?_
  rintro e w1 ⟨⟨m, k, hrd, rfl, hR⟩ | ⟨hrd, rfl, j, hR⟩, hk1⟩
  · have HRD := Lib.hid hrd
    have hsz1 := hk1.size
    have HK1 := Lib.hid hk1
    obtain ⟨R, hRe⟩ : ∃ R, R = rdP m ((xs.drop at_).drop k) := ⟨_, rfl⟩
    have hI : Hid (∃ pre p bad, SpaInv w1 w1 rb A c ok xs m R 0 (.slice none 0 0) pre p bad) := ⟨[], at_ + k, false, rfl, by omega, World.ownsRow_nil _ _ _ _, hR, Kp.refl _ _, fun _ => ⟨by omega, by omega, by
      unfold SpInv
      rw [hRe, List.drop_drop, Nat.sub_zero]
      cases rdP m (xs.drop (at_ + k)) <;> simp⟩, fun h => by cases h⟩
    have hm62 := (rdN_some hrd).2.2.2.2
    have HRE := Lib.hid hRe
    clear hrd hk1 hRe hR
    go_wp2_with fail
    go_loopw [4, 5] (fun v i wr => ∃ q : Nat, q ≤ 131080 ∧ i = .int .i64 q ∧ Hid (∃ pre p bad, SpaInv w1 wr rb A c ok xs m R q v pre p bad)) (fun _ i _ => 131081 - (intOf i).toNat)
    case atStart => exact ⟨0, by omega, rfl, hI⟩
    case round =>
      obtain ⟨q, hq, rfl, hinv⟩ := hrel
      obtain ⟨pre, p, bad, hi⟩ := hinv.out
      have HI := Lib.hid hi
      have hc2 := hi.rdr.cell.2.2.1
      have hszr := hi.kp.size
      clear hi hinv hI
      cases bad with
      | true =>
        by_cases hlq : q < m
        · have h1 : (q : Int) < (m : Int) := by omega
          go_wp2_with fail
          go_ret
          exact ⟨.inr ⟨fun m' k' e => by
            rw [HRD.out] at e
            simp only [Option.some.injEq, Prod.mk.injEq] at e
            rw [← e.1, ← e.2, ← HRE.out]
            exact HI.out.no rfl, pre, _, p, rfl, by rw [HI.out.len]; exact own_base HI.out.own (fun g hg => by have := own_ge HI.out.own hg; omega), by rw [HI.out.len]; exact hq, HI.out.rdr⟩, HK1.out.trans HI.out.kp fun _ _ e => e⟩
        · have h1 : ¬ (q : Int) < (m : Int) := by omega
          go_wp2_with fail
          go_ret
          exact ⟨.inr ⟨fun m' k' e => by
            rw [HRD.out] at e
            simp only [Option.some.injEq, Prod.mk.injEq] at e
            rw [← e.1, ← e.2, ← HRE.out]
            exact HI.out.no rfl, pre, _, p, rfl, by rw [HI.out.len]; exact own_base HI.out.own (fun g hg => by have := own_ge HI.out.own hg; omega), by rw [HI.out.len]; exact hq, HI.out.rdr⟩, HK1.out.trans HI.out.kp fun _ _ e => e⟩
      | false =>
        obtain ⟨hqm, hqp, hsp⟩ := HI.out.yes rfl
        have HSI := Lib.hid hsp
        clear hsp
        by_cases hlq : q < m
        · have h1 : (q : Int) < (m : Int) := by omega
          have HG1 := Lib.hid (refget_any rb A c ok xs p wr HI.out.rdr)
          go_wp2_with fail
          refine HG1.out.mono ?_
          rintro e w3 ⟨⟨f, k1, hn1, rfl, hR3⟩ | ⟨hn1, rfl, j3, hR3⟩, hk3⟩
          · have hk1' := (rdN_some hn1).2.1
            have hf62 := (rdN_some hn1).2.2.2.2
            have HN1 := Lib.hid hn1
            have HG2 := Lib.hid (refget_any rb A c ok xs (p + k1) w3 hR3)
            clear hn1
            go_wp2_with fail
            refine HG2.out.mono ?_
            rintro e w4 ⟨⟨n, k2, hn2, rfl, hR4⟩ | ⟨hn2, rfl, j4, hR4⟩, hk4⟩
            · have hk2' := (rdN_some hn2).2.1
              have hn62 := (rdN_some hn2).2.2.2.2
              have hst := HSI.out.step hlq HN1.out (by rw [List.drop_drop]; exact hn2)
              have HST := Lib.hid hst
              have hk34 := hk3.trans hk4 fun _ _ e => e
              have hR4k := hR4.hk
              clear hn2 hst
              by_cases hov : n > 4611686018427387903 - f
              · have h2 : (4611686018427387903 : Int) - (f : Int) < (n : Int) := by omega
                have hbad := HST.out.over (by show _ < (f : Int) + (n : Int); omega)
                have HBAD := Lib.hid hbad
                have hspo := hR4.spoil
                have hfz := hR4.cell.2.2.2 2
                have hcc := hR4.cell.2.2.1
                have hks := hk34.trans hspo.2 fun _ _ e => e
                clear hbad
                go_upto_region 10 with (fail)
                generalize w4.setCell ⟨rb, 2, none⟩ (.bool true) = w5 at *
                have hov4 := own_kp HI.out.own hks (fun g hg e => by have := own_ge HI.out.own hg; omega)
                have hsz4 := hks.size
                have hspc := hspo.1
                go_wp2_with (at_builtin; go_loud (refine wpList_app1 w5 _ _ rfl (.tmp 33) (.tmp 39) 24 47 rfl es w1.heap.size _ _ _ hov4 rfl 1 1 rfl rfl (by simp [Value.oneCell']) (by simp only [maxLen]; omega) (by omega) (by omega) ?_; intro v7 w7 ho7 hk7 ha7))
                have hr7 : Hid (∃ pre p bad, SpaInv w1 w7 rb A c ok xs m R (q + 1) v7 pre p bad) :=
                  ⟨pre ++ [((f : Int), (f : Int) + (n : Int))], _, true, by rw [List.length_append, HI.out.len]; rfl, by have := HI.out.rdr.hk; omega, by rw [sps_app]; exact ho7, hspo.1.kp hk7 (fun e => by have := own_ge hov4 e; omega) (fun g hg e => by have := own_ge hov4 e; have := hok g hg; omega),
                    (HI.out.kp.trans hks fun _ _ e => e).trans hk7 (fun i hi e => by have := own_ge hov4 e; omega), (fun h => by cases h), fun _ => HBAD.out⟩
                clear hov4 ho7 hk7 ha7
                go_roundw
                case rel => exact ⟨q + 1, by have := HI.out.rdr.hk; omega, by go_num, hr7⟩
                case measure => simp [intOf]; omega
              · have h2 : ¬ (4611686018427387903 : Int) - (f : Int) < (n : Int) := by omega
                have hov4 := own_kp HI.out.own hk34 (fun g hg e => by have := own_ge HI.out.own hg; omega)
                have hsz4 := hk34.size

                go_wp2_with (at_builtin; go_loud (refine wpList_app1 w4 _ _ rfl (.tmp 33) (.tmp 39) 24 47 rfl es w1.heap.size _ _ _ hov4 rfl 1 1 rfl rfl (by simp [Value.oneCell']) (by simp only [maxLen]; omega) (by omega) (by omega) ?_; intro v7 w7 ho7 hk7 ha7))
                have hr7 : Hid (∃ pre p bad, SpaInv w1 w7 rb A c ok xs m R (q + 1) v7 pre p bad) :=
                  ⟨pre ++ [((f : Int), (f : Int) + (n : Int))], p + k1 + k2, false, by rw [List.length_append, HI.out.len]; rfl, by have := HI.out.rdr.hk; omega, by rw [sps_app]; exact ho7, hR4.kp hk7 (fun e => by have := own_ge hov4 e; omega) (fun g hg e => by have := own_ge hov4 e; have := hok g hg; omega),
                    (HI.out.kp.trans hk34 fun _ _ e => e).trans hk7 (fun i hi e => by have := own_ge hov4 e; omega), fun _ => ⟨by omega, by omega, by have := HST.out; simpa [List.drop_drop, Nat.add_assoc] using this⟩, (fun h => by cases h)⟩
                clear hov4 ho7 hk7 ha7
                go_roundw
                case rel => exact ⟨q + 1, by have := HI.out.rdr.hk; omega, by go_num, hr7⟩
                case measure => simp [intOf]; omega
            · have hbad : R = none := HSI.out.bad2 hlq HN1.out (by rw [List.drop_drop]; exact hn2)
              have HG3 := Lib.hid hR4
              have hk34 := hk3.trans hk4 fun _ _ e => e
              subst hbad
              clear hn2
              have h2 : ¬ (4611686018427387903 : Int) - (f : Int) < (0 : Int) := by omega
              have hov4 := own_kp HI.out.own hk34 (fun g hg e => by have := own_ge HI.out.own hg; omega)
              have hsz4 := hk34.size

              go_wp2_with (at_builtin; go_loud (refine wpList_app1 w4 _ _ rfl (.tmp 33) (.tmp 39) 24 47 rfl es w1.heap.size _ _ _ hov4 rfl 1 1 rfl rfl (by simp [Value.oneCell']) (by simp only [maxLen]; omega) (by omega) (by omega) ?_; intro v7 w7 ho7 hk7 ha7))
              have hr7 : Hid (∃ pre p bad, SpaInv w1 w7 rb A c ok xs m none (q + 1) v7 pre p bad) :=
                ⟨pre ++ [((f : Int), (f : Int) + (0 : Int))], _, true, by rw [List.length_append, HI.out.len]; rfl, by have := HI.out.rdr.hk; omega, by rw [sps_app]; exact ho7, hR4.kp hk7 (fun e => by have := own_ge hov4 e; omega) (fun g hg e => by have := own_ge hov4 e; have := hok g hg; omega),
                  (HI.out.kp.trans hk34 fun _ _ e => e).trans hk7 (fun i hi e => by have := own_ge hov4 e; omega), (fun h => by cases h), fun _ => SpBad.none⟩
              clear hov4 ho7 hk7 ha7
              go_roundw
              case rel => exact ⟨q + 1, by have := HI.out.rdr.hk; omega, by go_num, hr7⟩
              case measure => simp [intOf]; omega
          · have hbad : R = none := HSI.out.bad1 hlq hn1
            subst hbad
            clear hn1
            have HG2 := Lib.hid (refget_idle rb A c ok xs j3 w3 hR3)
            go_wp2_with fail
            refine HG2.out.mono ?_
            rintro e w4 ⟨rfl, rfl⟩
            have hov4 := own_kp HI.out.own hk3 (fun g hg e => by have := own_ge HI.out.own hg; omega)
            have hsz4 := hk3.size

            go_wp2_with (at_builtin; go_loud (refine wpList_app1 w3 _ _ rfl (.tmp 33) (.tmp 39) 24 47 rfl es w1.heap.size _ _ _ hov4 rfl 1 1 rfl rfl (by simp [Value.oneCell']) (by simp only [maxLen]; omega) (by omega) (by omega) ?_; intro v7 w7 ho7 hk7 ha7))
            have hr7 : Hid (∃ pre p bad, SpaInv w1 w7 rb A c ok xs m none (q + 1) v7 pre p bad) :=
              ⟨pre ++ [((0 : Int), (0 : Int))], _, true, by rw [List.length_append, HI.out.len]; rfl, by have := HI.out.rdr.hk; omega, by rw [sps_app]; exact ho7, hR3.kp hk7 (fun e => by have := own_ge hov4 e; omega) (fun g hg e => by have := own_ge hov4 e; have := hok g hg; omega),
                (HI.out.kp.trans hk3 fun _ _ e => e).trans hk7 (fun i hi e => by have := own_ge hov4 e; omega), (fun h => by cases h), fun _ => SpBad.none⟩
            clear hov4 ho7 hk7 ha7
            go_roundw
            case rel => exact ⟨q + 1, by have := HI.out.rdr.hk; omega, by go_num, hr7⟩
            case measure => simp [intOf]; omega
        · have hqe : q = m := by omega
          subst hqe
          have hd := HSI.out.done
          have h1 : ¬ (q : Int) < (q : Int) := by omega
          have HD := Lib.hid hd
          clear hd
          go_wp2_with fail
          go_ret
          exact ⟨.inl ⟨q, k, pre, p, _, HRD.out, by rw [← HRE.out]; exact HD.out, rfl, by rw [HI.out.len]; exact own_base HI.out.own (fun g hg => by have := own_ge HI.out.own hg; omega), by rw [HI.out.len]; exact hq, HI.out.rdr⟩, HK1.out.trans HI.out.kp fun _ _ e => e⟩
  · have HI := Lib.hid hR
    obtain ⟨hc0, hc1, hc2, hfz⟩ := hR.cell
    clear hR hfz
    go_wp2_with fail
    go_loopw [4, 5] (fun x4 x5 wr => x4 = .slice none 0 0 ∧ x5 = .int .i64 0 ∧ w1 = wr) (fun _ _ _ => 0)
    case atStart => exact ⟨rfl, rfl, rfl⟩
    case round =>
      obtain ⟨rfl, rfl, rfl⟩ := hrel
      go_wp2_with fail
      go_ret
      exact ⟨.inr ⟨(fun m k e => by rw [hrd] at e; cases e), [], _, j, rfl, World.ownsRow_nil _ _ _ _, by simp, HI.out⟩, hk1⟩

end Go.Proofs.Ytjgnapjhlhdgfaa
