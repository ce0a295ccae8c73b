/- Walks of layer 1's statements, third part: SdnvRises. -/
import Derived.Test.YtcakjjbfhbldeaaSg
import Derived.Test.YtcakjjbfhbldeaaSn
import Derived.Deep.QuietTactic
import Derived.BigQuiet
set_option linter.unusedVariables false
set_option linter.unusedSimpArgs false
namespace Go.Proofs.Ytcakjjbfhbldeaa
open Go.RowKit

set_option maxRecDepth 100000 in
set_option maxHeartbeats 3200000 in
theorem law_SdnvRises (a0 a1 : Int) (w : World) (h0 : 0 ≤ a0) (h0' : a0 < 18446744073709551616) (h1 : 0 ≤ a1) (h1' : a1 < 18446744073709551616) :
    Calls Try.prog 5 #[.int .u64 a0, .int .u64 a1] w fun e w' => e = .returned (.bool true) ∧ Nw w w' := by
  have HA := Lib.hid (awake_any w)
  by_cases h01 : a0 = a1
  · subst h01
    have HB := Lib.hid (fun W => bytes_any a0 W h0 h0')
    have HS := Lib.hid (fun W => size_any a0 W h0 h0')
    have hs1 : (1 : Int) ≤ (siz a0.toNat : Int) := by have := siz_pos a0.toNat; omega
    have hs2 : (siz a0.toNat : Int) ≤ 10 := by have := siz_le (n := a0.toNat) (by omega); omega
    clear h0 h0' h1 h1'
    go_enter Try.func5, Try.ntmps5
    go_wp2_with (go_at_call 10; refine HA.out.mono ?_; rintro e w1 ⟨rfl, hnw1⟩)
    refine (HB.out _).mono ?_
    rintro e w2 ⟨v1, rfl, hown1, hnw2⟩
    obtain ⟨B1, d1, rfl, hd1, hrd1⟩ := own_read hown1
    go_wp2_with fail
    refine (HB.out _).mono ?_
    rintro e w3 ⟨v2, rfl, hown2, hnw3⟩
    obtain ⟨B2, d2, rfl, hd2, hrd2⟩ := own_read hown2
    have hrd1' := hrd1.nw hnw3
    have hcv1 := run_cstr Try.underlying25 Try.underlying5 Try.underlying9 hrd1' d1
    have hcv2 := run_cstr Try.underlying25 Try.underlying5 Try.underlying9 hrd2 d2
    go_wp2_with fail
    refine (HS.out _).mono ?_
    rintro e w' ⟨rfl, rfl⟩
    go_wp2_with fail
    refine (HS.out _).mono ?_
    rintro e w' ⟨rfl, rfl⟩
    go_wp2_with fail
    go_ret
    exact ⟨rfl, (hnw1.nw hnw2).nw hnw3⟩
  obtain ⟨x, y, hx, hy, hxy⟩ : ∃ x y : Int, x = min a0 a1 ∧ y = max a0 a1 ∧ x ≤ y := ⟨_, _, rfl, rfl, by omega⟩
  have hcase : (a0 ≤ a1 ∧ x = a0 ∧ y = a1) ∨ (a1 < a0 ∧ x = a1 ∧ y = a0) := by omega
  have HX : Hid (0 ≤ x ∧ x < 18446744073709551616 ∧ 0 ≤ y ∧ y < 18446744073709551616) := ⟨by omega, by omega, by omega, by omega⟩
  clear hx hy h0 h0' h1 h1'
  have hs1 : (1 : Int) ≤ (siz x.toNat : Int) := by have := siz_pos x.toNat; omega
  have hs2 : (siz y.toNat : Int) ≤ 10 := by have := siz_le (n := y.toNat) (by have := HX.out; omega); omega
  have hs3 : (siz x.toNat : Int) ≤ (siz y.toNat : Int) := by have := siz_mono (a := x.toNat) (b := y.toNat) (by omega); omega
  have HB := Lib.hid (fun W => bytes_any x W HX.out.1 HX.out.2.1)
  have HB' := Lib.hid (fun W => bytes_any y W HX.out.2.2.1 HX.out.2.2.2)
  have HS := Lib.hid (fun W => size_any x W HX.out.1 HX.out.2.1)
  have HS' := Lib.hid (fun W => size_any y W HX.out.2.2.1 HX.out.2.2.2)
  have heq : ¬ x = y := by omega
  · have hlt : x < y := by omega
    have HR := Lib.hid (rises (a := x.toNat) (b := y.toNat) (by have := HX.out; omega) (by have := HX.out; omega))
    have hne : (x == y) = false := by rw [beq_eq_false_iff_ne]; exact heq
    clear heq
    rcases hcase with ⟨hle, e1, e2⟩ | ⟨hle, e1, e2⟩
    all_goals
      subst e1
      subst e2
      go_enter Try.func5, Try.ntmps5
      go_wp2_with (go_at_call 10; refine HA.out.mono ?_; rintro e w1 ⟨rfl, hnw1⟩)
      refine (HB.out _).mono ?_
      rintro e w2 ⟨v1, rfl, hown1, hnw2⟩
      obtain ⟨B1, d1, rfl, hd1, hrd1⟩ := own_read hown1
      go_wp2_with fail
      refine (HB'.out _).mono ?_
      rintro e w3 ⟨v2, rfl, hown2, hnw3⟩
      obtain ⟨B2, d2, rfl, hd2, hrd2⟩ := own_read hown2
      have hrd1' := hrd1.nw hnw3
      go_wp2_with fail
      refine (HS.out _).mono ?_
      rintro e w' ⟨rfl, rfl⟩
      go_wp2_with fail
      refine (HS'.out _).mono ?_
      rintro e w' ⟨rfl, rfl⟩
      go_wp2_with fail
      obtain ⟨i, p1, p2, heqs, hnei, hor⟩ := HR.out
      have hi1 : i < siz x.toNat := by rwa [enc_len] at p1
      have hi2 : i < siz y.toNat := by rwa [enc_len] at p2
      have HEQ := Lib.hid heqs
      have HOR := Lib.hid hor
      have HNE := Lib.hid hnei
      clear heqs hor hnei
      go_loopw [10] (fun q wr => ∃ k : Nat, k ≤ i ∧ q = .int .i64 k ∧ Nw w3 wr) (fun q _ => i - (intOf q).toNat)
      case atStart => exact ⟨0, by omega, rfl, Kp.refl _ _⟩
      case round =>
        obtain ⟨k, hk, rfl, hnw⟩ := hrel
        obtain ⟨ad1, hB1, _, c1⟩ := (hrd1'.nw hnw).byte (k := k) (by rw [enc_len]; omega)
        obtain ⟨ad2, hB2, _, c2⟩ := (hrd2.nw hnw).byte (k := k) (by rw [enc_len]; omega)
        have k0 : (0 : Int) ≤ (k : Int) := by omega
        have k1 : (k : Int) < (siz x.toNat : Int) := by omega
        have k2 : (k : Int) < (siz y.toNat : Int) := by omega
        by_cases hki : k < i
        · have h := HEQ.out k hki
          rw [List.getElem?_eq_getElem (by rw [enc_len]; omega), List.getElem?_eq_getElem (by rw [enc_len]; omega)] at h
          injection h with h
          rw [← h] at c2
          generalize ((enc x.toNat)[k]'_).toNat = b at c1 c2
          subst hB1
          subst hB2
          go_wp2
          go_quiet (fail)
          go_wp2
          go_roundw
          case rel => exact ⟨k + 1, by omega, by go_num, Kp.drewN hnw _⟩
          case measure => simp [intOf]; omega
        · obtain rfl : k = i := by omega
          generalize hbx : ((enc x.toNat)[k]'_).toNat = bx at c1 HNE HOR
          generalize hby : ((enc y.toNat)[k]'_).toNat = by_ at c2 HNE HOR
          have hnb : ((bx : Int) != (by_ : Int)) = true := by rw [bne_iff_ne]; have := HNE.out; omega
          clear hbx hby
          subst hB1
          subst hB2
          by_cases hst : siz x.toNat < siz y.toNat
          · have hd : decide ((siz x.toNat : Int) < (siz y.toNat : Int)) = true := by simpa using hst
            go_wp2
            go_quiet (fail)
            go_wp2
            go_quiet (fail)
            go_wp2
            go_ret
            exact ⟨rfl, Kp.drewN (Kp.drewN ((((hnw1.nw hnw2).nw hnw3)).nw hnw) _) _⟩
          · have hd : decide ((siz x.toNat : Int) < (siz y.toNat : Int)) = false := by simpa using hst
            have hlb : (bx : Int) < (by_ : Int) := by have := HOR.out; omega
            go_wp2
            go_quiet (fail)
            go_wp2
            go_quiet (fail)
            go_wp2
            go_ret
            exact ⟨rfl, Kp.drewN (Kp.drewN ((((hnw1.nw hnw2).nw hnw3)).nw hnw) _) _⟩

end Go.Proofs.Ytcakjjbfhbldeaa
