/- Records: the reference's reader: bytes. -/
import Derived.Test.YtjgnapjhlhdgfaaQa
import Derived.StillTailTactics
set_option linter.unusedVariables false
set_option linter.unusedSimpArgs false
namespace Go.Proofs.Ytjgnapjhlhdgfaa
open Go.RowKit

/-- What comes of reading bytes. -/
def BytPost (w : World) (rb : Nat) (A : Option Addr) (c : Nat) (ok : Nat → Prop) (xs : List UInt8) (at_ : Nat) (e : Ending) (w' : World) : Prop :=
  ((∃ (m k : Nat) (v : Value), rdN (xs.drop at_) = some (m, k) ∧ m ≤ ((xs.drop at_).drop k).length ∧ e = .returned v ∧ w'.ownsRow w.heap.size 5 1 v m (bys (((xs.drop at_).drop k).take m)) ∧ Rdr w' rb A c ok xs (at_ + k + m) false) ∨
    ((∀ m k, rdN (xs.drop at_) = some (m, k) → ((xs.drop at_).drop k).length < m) ∧ e = .returned (.slice none 0 0) ∧ ∃ j, Rdr w' rb A c ok xs j true)) ∧ Kp (fun g => g = rb) w w'

set_option maxRecDepth 100000 in
set_option maxHeartbeats 3200000 in
theorem refbytes_idle (rb : Nat) (A : Option Addr) (c : Nat) (ok : Nat → Prop) (xs : List UInt8) (at_ : Nat) (w : World) (h : Rdr w rb A c ok xs at_ true) :
    Calls Try.prog 30 #[.pointer (some ⟨rb, 0, none⟩)] w fun e w' => e = .returned (.slice none 0 0) ∧ Rdr w' rb A c ok xs at_ true ∧ Kp (fun g => g = rb) w w' := by
  obtain ⟨hc0, hc1, hc2, hfz⟩ := h.cell
  have hfz2 := hfz 2
  have HI := Lib.hid (refget_idle rb A c ok xs at_ w h)
  have HS := Lib.hid h.spoil
  clear h hfz
  go_enter Try.func30, Try.ntmps30
  go_wp2_with fail
  refine HI.out.mono ?_
  rintro e w1 ⟨rfl, rfl⟩
  go_wp2_with fail
  go_big_quiet (fail)
  go_wp2_with fail
  go_ret
  exact ⟨rfl, HS.out.1.drewN _, Kp.drewN HS.out.2 _⟩

set_option maxRecDepth 100000 in
set_option maxHeartbeats 6400000 in
theorem refbytes_any (rb : Nat) (A : Option Addr) (c : Nat) (ok : Nat → Prop) (xs : List UInt8) (at_ : Nat) (w : World) (h : Rdr w rb A c ok xs at_ false) :
    Calls Try.prog 30 #[.pointer (some ⟨rb, 0, none⟩)] w (BytPost w rb A c ok xs at_) := by
  have HG := Lib.hid (refget_any rb A c ok xs at_ w h)
  have eb := Try.elU8
  have HNIL := Lib.hid (fun W : World => show W.ownsRow W.heap.size 5 1 (.slice none 0 0) 0 (bys []) from World.ownsRow_nil _ _ _ _)
  have hlt := h.lt
  clear h
  go_enter Try.func30, Try.ntmps30
  go_wp2_with fail
  refine HG.out.mono ?_
  rintro e w1 ⟨⟨m, k, hrd, rfl, hR⟩ | ⟨hrd, rfl, j, hR⟩, hk1⟩
  · obtain ⟨p, hp⟩ : ∃ p, p = at_ + k := ⟨_, rfl⟩
    rw [← hp] at hR
    obtain ⟨hc0, hc1, hc2, hfz⟩ := hR.cell
    have hfz1 := hfz 1
    have hfz2 := hfz 2
    obtain ⟨hN, hk0, hk9, _, hm62⟩ := rdN_some hrd
    have hkx := hR.hk
    have hle : Hid (((xs.drop at_).drop k).length = xs.length - p) := by show _ = _; rw [List.drop_drop, List.length_drop, ← hp]
    have hdd : Hid ((xs.drop at_).drop k = xs.drop p) := by show _ = _; rw [List.drop_drop, ← hp]
    have hHN := hR.hn
    have hHC := hR.hc
    have HK1 := Lib.hid hk1
    have HSP := Lib.hid hR.spoil
    have HR := Lib.hid hR
    have HRD := Lib.hid hrd
    have HP := Lib.hid hp
    have hsz := hk1.size
    clear hfz hN hk0 hk9 hrd hk1 hR hp
    by_cases hm : m ≤ xs.length - p
    · have hd2 : ¬ (xs.length : Int) - (p : Int) < (m : Int) := by omega
      have hcut := HR.out.rd.cut1 (k := p) (cap := c) hkx hHC
      rw [← bys_drop] at hcut
      have htk := hcut.take hm
      rw [Nat.mul_one, ← bys_take] at htk
      have HTK := Lib.hid htk
      have hb1 : (p : Int) + (m : Int) ≤ (c : Int) := by omega
      have hb2 : (p : Int) ≤ (p : Int) + (m : Int) := by omega
      have hb3 : (0 : Int) ≤ (p : Int) := by omega
      clear hcut htk
      have hd1 : decide ((xs.length : Int) - (p : Int) < (m : Int)) = false := by simp; omega
      have hwr : IntKind.i64.wrap ((p : Int) + (m : Int)) = (p : Int) + (m : Int) := by
        unfold IntKind.wrap
        simp [IntKind.bits, IntKind.signed]
        omega
      by_cases hcp : c = p
      · rw [if_pos hcp] at HTK
        have hm0 : m = 0 := by omega
        subst hm0
        subst hcp
        have hwr0 : IntKind.i64.wrap (c : Int) = (c : Int) := by
          unfold IntKind.wrap
          simp [IntKind.bits, IntKind.signed]
          omega
        go_wp2_with fail
        go_big_quiet (fail)
        go_upto_region 6 with (fail)
        have HR2 := Lib.hid (HR.out.drewN nq)
        have HT2 := Lib.hid (HTK.out.drewN nq)
        have HK2 := Lib.hid (HK1.out.drewN nq)
        generalize w1.drewN nq = w2 at *
        have q0 := HR2.out.cell.1
        have q1 := HR2.out.cell.2.1
        have q3 := HR2.out.cell.2.2.2 1
        clear hc0 hc1 hc2 hfz1 hfz2
        go_still_tail 16, (by kernel_rfl)
        change wpList _ _ _ _ _ w2.drew
        have HR3 := Lib.hid (show Rdr w2.drew rb A c ok xs c false from HR2.out.drewN 1)
        have HT3 := Lib.hid (show Rd w2.drew ok 1 _ 0 _ from HT2.out.drewN 1)
        have HK3 := Lib.hid (show Kp (fun g => g = rb) w w2.drew from HK2.out.drewN 1)
        have hsz2 := HK2.out.size
        have hsz3 : w2.drew.heap.size = w2.heap.size := rfl
        generalize w2.drew = w3 at *
        go_wp2_with (at_builtin; refine wpList_appv _ rfl (.tmp 28) (.tmp 43) 25 5 rfl eb w3.heap.size _ _ _ (HNIL.out w3) rfl _ _ _ _ _ HT3.out rfl (bys_one _) (by simp only [maxLen]; omega) (by omega) (Nat.le_refl _) ?_; intro v4 w4 ho4 hk4 ha4; have hnw4 := Kp.nil_nw hk4; have HR4 := Lib.hid (HR3.out.nw hnw4); have q0 := HR4.out.cell.1; have q1 := HR4.out.cell.2.1; have q3 := HR4.out.cell.2.2.2 1)
        have hat := HR4.out.at_ (j := c + 0) (by omega)
        rw [Nat.zero_add] at ho4
        go_ret
        refine ⟨.inl ⟨0, k, v4, HRD.out, by rw [hle.out]; omega, rfl, ?_, ?_⟩, ?_⟩
        · rw [hdd.out]
          have ho5 := own_kp ho4 hat.2 (fun g hg e => by have := own_ge ho4 hg; omega)
          exact own_base ho5 (fun g hg => by have := own_ge ho5 hg; omega)
        · rw [← HP.out]
          exact hat.1
        · exact ((HK3.out.nw hnw4).trans hat.2 fun _ _ e => e)
      · rw [if_neg hcp] at HTK
        have hb4 : ¬ (c : Int) = (p : Int) := by omega
        go_wp2_with fail
        go_big_quiet (fail)
        go_upto_region 6 with (fail)
        have HR2 := Lib.hid (HR.out.drewN nq)
        have HT2 := Lib.hid (HTK.out.drewN nq)
        have HK2 := Lib.hid (HK1.out.drewN nq)
        generalize w1.drewN nq = w2 at *
        have q0 := HR2.out.cell.1
        have q1 := HR2.out.cell.2.1
        have q3 := HR2.out.cell.2.2.2 1
        clear hc0 hc1 hc2 hfz1 hfz2
        go_still_tail 16, (by kernel_rfl)
        change wpList _ _ _ _ _ w2.drew
        have HR3 := Lib.hid (show Rdr w2.drew rb A c ok xs p false from HR2.out.drewN 1)
        have HT3 := Lib.hid (show Rd w2.drew ok 1 _ m _ from HT2.out.drewN 1)
        have HK3 := Lib.hid (show Kp (fun g => g = rb) w w2.drew from HK2.out.drewN 1)
        have hsz2 := HK2.out.size
        have hsz3 : w2.drew.heap.size = w2.heap.size := rfl
        rw [show ((p : Int) + (m : Int)).toNat - p = m from by omega]
        generalize w2.drew = w3 at *
        go_wp2_with (at_builtin; refine wpList_appv _ rfl (.tmp 28) (.tmp 43) 25 5 rfl eb w3.heap.size _ _ _ (HNIL.out w3) rfl _ _ _ _ _ HT3.out rfl (bys_one _) (by simp only [maxLen]; omega) (by omega) (Nat.le_refl _) ?_; intro v4 w4 ho4 hk4 ha4; have hnw4 := Kp.nil_nw hk4; have HR4 := Lib.hid (HR3.out.nw hnw4); have q0 := HR4.out.cell.1; have q1 := HR4.out.cell.2.1; have q3 := HR4.out.cell.2.2.2 1)
        have hat := HR4.out.at_ (j := p + m) (by omega)
        rw [Nat.zero_add] at ho4
        go_ret
        refine ⟨.inl ⟨m, k, v4, HRD.out, by rw [hle.out]; omega, rfl, ?_, ?_⟩, ?_⟩
        · rw [hdd.out]
          have ho5 := own_kp ho4 hat.2 (fun g hg e => by have := own_ge ho4 hg; omega)
          exact own_base ho5 (fun g hg => by have := own_ge ho5 hg; omega)
        · rw [← HP.out]
          exact hat.1
        · exact ((HK3.out.nw hnw4).trans hat.2 fun _ _ e => e)
    · have hd1 : decide ((xs.length : Int) - (p : Int) < (m : Int)) = true := by simp; omega
      have hd2 : (xs.length : Int) - (p : Int) < (m : Int) := by omega
      go_wp2_with fail
      go_big_quiet (fail)
      go_wp2_with fail
      go_ret
      exact ⟨.inr ⟨fun m' k' e => by
        rw [HRD.out] at e
        simp only [Option.some.injEq, Prod.mk.injEq] at e
        rw [← e.1, ← e.2, hle.out]
        omega, rfl, _, HSP.out.1.drewN _⟩, HK1.out.trans (Kp.drewN HSP.out.2 _) fun _ _ e => e⟩
  · obtain ⟨hc0, hc1, hc2, hfz⟩ := hR.cell
    have hfz2 := hfz 2
    have HSP := Lib.hid hR.spoil
    have HK1 := Lib.hid hk1
    have HRD := Lib.hid hrd
    clear hfz hR hk1 hrd
    go_wp2_with fail
    go_big_quiet (fail)
    go_wp2_with fail
    go_ret
    exact ⟨.inr ⟨(fun m k e => by rw [HRD.out] at e; cases e), rfl, _, HSP.out.1.drewN _⟩, HK1.out.trans (Kp.drewN HSP.out.2 _) fun _ _ e => e⟩

end Go.Proofs.Ytjgnapjhlhdgfaa
