/- Walks of layer 1's statements, fourth part: SdnvOne. -/
import Derived.Test.YtcakjjbfhbldeaaSg
import Derived.Deep.QuietTactic
import Derived.BigQuiet
set_option linter.unusedVariables false
set_option linter.unusedSimpArgs false
namespace Go.Proofs.Ytcakjjbfhbldeaa
open Go.RowKit

theorem run_cstrN {P : Program} {src dst e : TypeId} (hs : P.underlying src = some (.slice e)) (he : P.underlying e = some (.int .u8)) (hd : P.underlying dst = some .string)
    {w : World} {ok : Nat → Prop} {A : Option Addr} {n : Nat} {l : List UInt8} (h : Rd w ok 1 A n (bys l)) (c : Nat) :
    ∀ m : Nat, (convert src dst (.slice A n c)).run P (w.drewN m) = .ok (.string (sb l)) (w.drewN m) := fun m => run_cstr hs he hd (h.drewN m) c

set_option maxRecDepth 100000 in
set_option maxHeartbeats 3200000 in
theorem law_SdnvOne (A0 : Option Addr) (n0 c0 : Nat) (x0 : List UInt8) (w : World)
    (hr0 : Rd w (fun _ => True) 1 A0 n0 (bys x0)) (hc0 : n0 ≤ c0) (hb0 : c0 ≤ 1048576) :
    Calls Try.prog 9 #[.slice A0 n0 c0] w fun e w' => e = .returned (.bool true) ∧ Nw w w' := by
  have hl0 : x0.length = n0 := by have := hr0.len; rwa [bys_len] at this
  have HA := Lib.hid (awake_any w)
  have hj : (joinE (allS x0).1).length ≤ n0 ∨ (allS x0).2 ≠ 0 := by
    by_cases h : (allS x0).2 = 0
    · refine .inl ?_
      rw [(allS_back x0 (allS x0).1 (Prod.ext rfl h)).1, hl0]
      exact Nat.le_refl _
    · exact .inr h
  obtain ⟨x, k, e, hq⟩ : ∃ a b c, rdS x0 0 0 = (a, b, c) := ⟨_, _, _, rfl⟩
  obtain ⟨l, f, ha⟩ : ∃ l f, allS x0 = (l, f) := ⟨_, _, rfl⟩
  have hll : l.length ≤ n0 := by have := allS_len x0; rw [ha, hl0] at this; exact this
  have HR := Lib.hid (fun W (h : Rd W (fun _ => True) 1 A0 n0 (bys x0)) => read_tup A0 n0 c0 _ x0 W h (by omega) x k e hq)
  have HL : Hid (∀ W, Rd W (fun _ => True) 1 A0 n0 (bys x0) → Calls Try.prog 22 #[.slice A0 n0 c0] W fun e w' => ∃ v, e = .returned (.tuple #[v, .int .i64 (f : Int)]) ∧ w'.ownsRow W.heap.size 27 1 v l.length (wds l) ∧ Nw W w') := fun W h => by
    have h := all_any A0 n0 c0 _ x0 W h hc0 (by omega)
    rwa [ha] at h
  by_cases he : e = 0
  · subst he
    obtain ⟨hk1, hk2, hk3, hk4⟩ := rdS_back hq
    have hne : x0 ≠ [] := by rintro rfl; simp [rdS] at hq
    have hk1' : (1 : Int) ≤ (k : Int) := by omega
    have hk2' : (k : Int) ≤ (n0 : Int) := by omega
    have hdk1 : decide ((k : Int) < 1) = false := by simp; omega
    have hdk2 : decide (n0 < k) = false := by simp; omega
    have hdk3 : decide ((n0 : Int) < (k : Int)) = false := by simp; omega
    have HT := Lib.hid hk3
    have HX := Lib.hid hk4
    have HQ := Lib.hid hq
    have HAA := Lib.hid ha
    clear hk3 hk4 hq ha hj hl0
    have HB := Lib.hid (fun W => bytes_any (x : Int) W (by have := HX.out; omega) (by have := HX.out; omega))
    rw [Int.toNat_natCast] at HB
    by_cases hf : f = 0
    · subst hf
      have hjb := allS_back x0 l HAA.out
      have hjl := hjb.1
      have HJ : Hid (∀ W A c ok, Rd W ok 1 A l.length (wds l) → Calls Try.prog 19 #[.slice A l.length c] W fun e w' => ∃ v, e = .returned v ∧ w'.ownsRow W.heap.size 5 1 v x0.length (bys x0) ∧ Nw W w') := fun W A c ok h => by
        have h := join_any A l.length c ok l W h hjb.2 (by omega)
        rwa [hjl] at h
      clear hjb hjl
      go_enter Try.func9, Try.ntmps9
      go_wp2_with (first
        | (go_at_call 10; refine HA.out.mono ?_; rintro e w1 ⟨rfl, hnw1⟩; have hr1 := hr0.nw hnw1)
        | (go_at_call 13; refine (HR.out _ hr1).mono ?_; rintro e w' ⟨rfl, rfl⟩)
        | (go_at_call 22; refine (HL.out _ hr1).mono ?_; rintro e w2 ⟨v1, rfl, hown2, hnw2⟩; obtain ⟨B2, d2, rfl, hd2, hrd2⟩ := own_read hown2; have hr2 := hr1.nw hnw2))
      refine (HB.out _).mono ?_
      rintro e w3 ⟨v3, rfl, hown3, hnw3⟩
      obtain ⟨B3, d3, rfl, hd3, hrd3⟩ := own_read hown3
      have hr3 := hr2.nw hnw3
      have hcv1 := run_cstrN Try.underlying25 Try.underlying5 Try.underlying9 hrd3 d3
      have hr3k : Rd w3 (fun _ => True) 1 A0 k (bys (enc x)) := by
        have h := hr3.take (k := k) (by omega)
        rwa [Nat.mul_one, ← bys_take, HT.out] at h
      have hcv2 := run_cstrN Try.underlying25 Try.underlying5 Try.underlying9 hr3k c0
      have hrd2' := hrd2.nw hnw3
      go_wp2_with fail
      go_quiet (fail)
      go_wp2_with fail
      refine (HJ.out _ _ _ _ (hrd2'.drewN _)).mono ?_
      rintro e w4 ⟨v4, rfl, hown4, hnw4⟩
      obtain ⟨B4, d4, rfl, hd4, hrd4⟩ := own_read hown4
      have hr4 := (hr3.drewN _).nw hnw4
      have hcv3 := run_cstr Try.underlying25 Try.underlying5 Try.underlying9 hrd4 d4
      have hcv4 := run_cstr Try.underlying25 Try.underlying5 Try.underlying9 hr4 c0
      go_wp2
      go_ret
      exact ⟨rfl, (Kp.drewN ((hnw1.nw hnw2).nw hnw3) _).nw hnw4⟩
    · have hf' : ((f : Int) != 0) = true := by rw [bne_iff_ne]; omega
      have hl' : l = [] := by have := allS_err x0 (by rw [HAA.out]; exact hf); rwa [HAA.out] at this
      subst hl'
      go_enter Try.func9, Try.ntmps9
      go_wp2_with (first
        | (go_at_call 10; refine HA.out.mono ?_; rintro e w1 ⟨rfl, hnw1⟩; have hr1 := hr0.nw hnw1)
        | (go_at_call 13; refine (HR.out _ hr1).mono ?_; rintro e w' ⟨rfl, rfl⟩)
        | (go_at_call 22; refine (HL.out _ hr1).mono ?_; rintro e w2 ⟨v1, rfl, hown2, hnw2⟩; obtain ⟨B2, d2, rfl, hd2, hrd2⟩ := own_read hown2; have hr2 := hr1.nw hnw2))
      refine (HB.out _).mono ?_
      rintro e w3 ⟨v3, rfl, hown3, hnw3⟩
      obtain ⟨B3, d3, rfl, hd3, hrd3⟩ := own_read hown3
      have hr3 := hr2.nw hnw3
      have hcv1 := run_cstrN Try.underlying25 Try.underlying5 Try.underlying9 hrd3 d3
      have hr3k : Rd w3 (fun _ => True) 1 A0 k (bys (enc x)) := by
        have h := hr3.take (k := k) (by omega)
        rwa [Nat.mul_one, ← bys_take, HT.out] at h
      have hcv2 := run_cstrN Try.underlying25 Try.underlying5 Try.underlying9 hr3k c0
      go_wp2_with fail
      go_quiet (fail)
      go_wp2
      go_ret
      exact ⟨rfl, Kp.drewN ((hnw1.nw hnw2).nw hnw3) _⟩
  · have hz := rdS_err x0 0 0
    rw [hq] at hz
    rcases hz with hz | ⟨hz1, hz2, hz3, hz4⟩
    · exact absurd hz he
    simp only at hz1 hz2 hz3 hz4
    subst hz1
    subst hz2
    have he' : ((e : Int) != 0) = true := by rw [bne_iff_ne]; omega
    have he'' : ((e : Int) == 0) = false := by rw [beq_eq_false_iff_ne]; omega
    by_cases h0 : n0 = 0
    · have hx : x0 = [] := List.eq_nil_of_length_eq_zero (by omega)
      subst hx
      rw [allS_nil] at ha
      simp only [Prod.mk.injEq] at ha
      obtain ⟨rfl, rfl⟩ := ha
      subst h0
      clear hj hll hl0 hq he
      have HJ := Lib.hid (fun W A c ok (h : Rd W ok 1 A 0 (wds [])) => join_any A 0 c ok [] W h (by simp) (by omega))
      go_enter Try.func9, Try.ntmps9
      go_wp2_with (first
        | (go_at_call 10; refine HA.out.mono ?_; rintro e w1 ⟨rfl, hnw1⟩; have hr1 := hr0.nw hnw1)
        | (go_at_call 13; refine (HR.out _ hr1).mono ?_; rintro e w' ⟨rfl, rfl⟩)
        | (go_at_call 22; refine (HL.out _ hr1).mono ?_; rintro e w2 ⟨v1, rfl, hown2, hnw2⟩; obtain ⟨B2, d2, rfl, hd2, hrd2⟩ := own_read hown2; have hr2 := hr1.nw hnw2)
        | (go_at_call 19; refine (HJ.out _ _ _ _ hrd2).mono ?_; rintro e w3 ⟨v3, rfl, hown3, hnw3⟩; obtain ⟨B3, d3, rfl, hd3, hrd3⟩ := own_read hown3; have hcv1 := run_cstr Try.underlying25 Try.underlying5 Try.underlying9 hrd3 d3; have hcv2 := run_cstr Try.underlying25 Try.underlying5 Try.underlying9 (hr2.nw hnw3) c0))
      go_ret
      refine ⟨?_, (hnw1.nw hnw2).nw hnw3⟩
      show Ending.returned (.bool ((sb (joinE [])).toList == (sb []).toList)) = _
      rw [show joinE [] = [] from rfl, beq_self_eq_true]
    · have hne : x0 ≠ [] := by rintro rfl; exact h0 (by rw [← hl0]; rfl)
      have hb := allS_bad hne (by rw [hq]; exact he)
      rw [hq, ha] at hb
      simp only [Prod.mk.injEq] at hb
      obtain ⟨rfl, rfl⟩ := hb
      have h0' : (0 : Int) < (n0 : Int) := by omega
      clear hj hll hl0 hq he ha h0 hne
      go_enter Try.func9, Try.ntmps9
      go_wp2_with (first
        | (go_at_call 10; refine HA.out.mono ?_; rintro e w1 ⟨rfl, hnw1⟩; have hr1 := hr0.nw hnw1)
        | (go_at_call 13; refine (HR.out _ hr1).mono ?_; rintro e w' ⟨rfl, rfl⟩)
        | (go_at_call 22; refine (HL.out _ hr1).mono ?_; rintro e w2 ⟨v1, rfl, hown2, hnw2⟩; obtain ⟨B2, d2, rfl, hd2, hrd2⟩ := own_read hown2; have hr2 := hr1.nw hnw2))
      go_ret
      exact ⟨rfl, hnw1.nw hnw2⟩

end Go.Proofs.Ytcakjjbfhbldeaa
