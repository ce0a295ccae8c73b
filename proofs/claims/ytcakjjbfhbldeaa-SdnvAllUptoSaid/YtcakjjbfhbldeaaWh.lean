/- Walks of layer 1's statements, seventh part: SdnvAll. -/
import Derived.Test.YtcakjjbfhbldeaaSj
import Derived.Test.YtcakjjbfhbldeaaWg
set_option linter.unusedVariables false
set_option linter.unusedSimpArgs false
namespace Go.Proofs.Ytcakjjbfhbldeaa
open Go.RowKit

set_option maxRecDepth 100000 in
set_option maxHeartbeats 3200000 in
theorem law_SdnvAll (A0 : Option Addr) (n0 c0 : Nat) (x0 : List UInt8) (A1 : Option Addr) (n1 c1 : Nat) (x1 : List UInt8) (w : World)
    (hr0 : Rd w (fun _ => True) 1 A0 n0 (bys x0)) (hc0 : n0 ≤ c0) (hb0 : c0 ≤ 1048576) (hr1 : Rd w (fun _ => True) 1 A1 n1 (bys x1)) (hc1 : n1 ≤ c1) (hb1 : c1 ≤ 1048576) :
    Calls Try.prog 7 #[.slice A0 n0 c0, .slice A1 n1 c1] w fun e w' => e = .returned (.bool true) ∧ Nw w w' := by
  have hl0 : x0.length = n0 := by have := hr0.len; rwa [bys_len] at this
  have hl1 : x1.length = n1 := by have := hr1.len; rwa [bys_len] at this
  have ho0 := hr0.old (by omega)
  have HA := Lib.hid (awake_any w)
  have hm1 := allS_len x0
  have hm2 := allS_len x1
  have hm3 := allS_len (x0.map turn)
  rw [List.length_map] at hm3
  have AL : ∀ (A : Option Addr) n c (ok : Nat → Prop) xs W, Rd W ok 1 A n (bys xs) → n ≤ c → n ≤ 17592186044000 → ∀ l f, allS xs = (l, f) →
      Calls Try.prog 22 #[.slice A n c] W fun e w' => ∃ v, e = .returned (.tuple #[v, .int .i64 (f : Int)]) ∧ w'.ownsRow W.heap.size 27 1 v l.length (wds l) ∧ Nw W w' := by
    intro A n c ok xs W h hc hn l f hq
    have h := all_any A n c ok xs W h hc hn
    rwa [hq] at h
  have RL : ∀ (A : Option Addr) n c (ok : Nat → Prop) xs W, Rd W ok 1 A n (bys xs) → n ≤ c → n ≤ 17592186044000 → ∀ l f, allS xs = (l, f) →
      Calls Try.prog 23 #[.slice A n c] W fun e w' => ∃ v, e = .returned (.tuple #[v, .int .i64 (f : Int)]) ∧ w'.ownsRow W.heap.size 27 1 v l.length (wds l) ∧ Nw W w' := by
    intro A n c ok xs W h hc hn l f hq
    have h := refAll_any A n c ok xs W h hc hn
    rwa [hq] at h
  have AL := Lib.hid AL
  have RL := Lib.hid RL
  obtain ⟨p1, q1, hq0⟩ : ∃ a b, allS x0 = (a, b) := ⟨_, _, rfl⟩
  obtain ⟨p2, q2, hq1⟩ : ∃ a b, allS x1 = (a, b) := ⟨_, _, rfl⟩
  obtain ⟨p3, q3, hq2⟩ : ∃ a b, allS (x0.map turn) = (a, b) := ⟨_, _, rfl⟩
  rw [hq0] at hm1
  rw [hq1] at hm2
  rw [hq2] at hm3
  simp only [] at hm1 hm2 hm3
  have Q0 := Lib.hid hq0
  have Q1 := Lib.hid hq1
  have Q2 := Lib.hid hq2
  have L0 := Lib.hid hl0
  have B1 : p1.length ≤ 1048576 := by omega
  have B2 : p2.length ≤ 1048576 := by omega
  have B3 : p3.length ≤ 1048576 := by omega
  clear hq0 hq1 hq2 hl0 hl1 hm1 hm2 hm3
  go_enter Try.func7, Try.ntmps7
  go_wp2_with (first
    | (go_at_call 10; refine HA.out.mono ?_; rintro e w1 ⟨rfl, hnw1⟩)
    | (go_at_call 12; refine (lent_any A0 n0 c0 _ x0 w1 (hr0.nw hnw1) (by omega)).mono ?_; rintro e w2 ⟨g, rfl, how2, hnw2⟩))
  have hin2 : Rd w2 (fun k => k = g) 1 (some ⟨g, 0, none⟩) n0 (bys x0) := by
    have h := own_cut how2 (k := n0) (by omega)
    rw [← L0.out, List.take_left, L0.out] at h
    exact (own_slice h).more fun k e => by simpa [Value.ownBlock] using e.symm
  have hnw02 := hnw1.nw hnw2
  have hg : w.heap.size ≤ g := by have := (how2.lt g rfl).1; have := hnw1.size; omega
  have hg2 : g < w2.heap.size := (how2.lt g rfl).2
  refine (AL.out _ n0 (n0 + 9) _ x0 w2 hin2 (by omega) (by omega) p1 q1 Q0.out).mono ?_
  rintro e w3 ⟨v1, rfl, hv1, hnw3⟩
  go_wp2_with fail
  refine (AL.out _ n1 c1 _ x1 w3 (hr1.nw (hnw02.nw hnw3)) (by omega) (by omega) p2 q2 Q1.out).mono ?_
  rintro e w4 ⟨v2, rfl, hv2, hnw4⟩
  go_wp2_with fail
  refine (AL.out _ n0 (n0 + 9) _ x0 w4 (hin2.nw (hnw3.nw hnw4)) (by omega) (by omega) p1 q1 Q0.out).mono ?_
  rintro e w5 ⟨v3, rfl, hv3, hnw5⟩
  have hn25 := (hnw3.nw hnw4).nw hnw5
  have hs3 := hnw3.size
  have hs4 := hnw4.size
  have hs5 := hnw5.size
  have hB5 := (((Brows.nil (w := w2) (base := w2.heap.size) (e := 27)).snoc hnw3 (Nat.le_refl _) hv1 (by omega)).snoc hnw4 (by omega) hv2 (by omega)).snoc hnw5 (by omega) hv3 (by omega)
  go_wp2_with fail
  refine (back_any A0 n0 c0 _ x0 w5 g _ (ho0.nw (hnw02.nw hn25)) (by omega) (own_nw how2 hn25) (fun k hk => by have := hk.2; omega)).mono ?_
  rintro e w6 ⟨rfl, how6, hkp6⟩
  have hnw06 : Nw w w6 := (hnw02.nw hn25).trans hkp6 fun i hi e => by omega
  have hin6 : Rd w6 (fun k => k = g) 1 (some ⟨g, 0, none⟩) n0 (bys (x0.map turn)) := by
    have h := own_cut how6 (k := n0) (by omega)
    have hl : (x0.map turn).length = n0 := by rw [List.length_map]; exact L0.out
    rw [List.map_append, ← hl, List.take_left, hl] at h
    exact (own_slice h).more fun k e => by simpa [Value.ownBlock] using e.symm
  have hB6 := hB5.kp hkp6 fun v hv g' hg' e => by have := hB5.ge v hv g' hg'; omega
  have hv1' := own_kp (own_nw (own_nw hv1 hnw4) hnw5) hkp6 fun g' hg' e => by have := own_ge hv1 hg'; omega
  have hv2' := own_kp (own_nw hv2 hnw5) hkp6 fun g' hg' e => by have := own_ge hv2 hg'; omega
  have hv3' := own_kp hv3 hkp6 fun g' hg' e => by have := own_ge hv3 hg'; omega
  have hs6 := hkp6.size
  go_wp2_with fail
  refine (AL.out _ n0 (n0 + 9) _ _ w6 hin6 (by omega) (by omega) p3 q3 Q2.out).mono ?_
  rintro e w7 ⟨v4, rfl, hv4, hnw7⟩
  have hB7 := hB6.snoc hnw7 (by omega) hv4 (by omega)
  go_wp2_with fail
  refine (RL.out _ n0 c0 _ x0 w7 (hr0.nw (hnw06.nw hnw7)) (by omega) (by omega) p1 q1 Q0.out).mono ?_
  rintro e w8 ⟨v5, rfl, hv5, hnw8⟩
  go_wp2_with fail
  refine (RL.out _ n1 c1 _ x1 w8 (hr1.nw ((hnw06.nw hnw7).nw hnw8)) (by omega) (by omega) p2 q2 Q1.out).mono ?_
  rintro e w9 ⟨v6, rfl, hv6, hnw9⟩
  go_wp2_with fail
  refine (RL.out _ n0 (n0 + 9) _ _ w9 (hin6.nw ((hnw7.nw hnw8).nw hnw9)) (by omega) (by omega) p3 q3 Q2.out).mono ?_
  rintro e w10 ⟨v7, rfl, hv7, hnw10⟩
  have hn710 := (hnw8.nw hnw9).nw hnw10
  have hs7 := hnw7.size
  have hB10 := hB7.nw hn710
  obtain ⟨S1, d1, rfl, _, hw1⟩ := own_read (own_nw (own_nw hv1' hnw7) hn710)
  obtain ⟨S2, d2, rfl, _, hw2⟩ := own_read (own_nw (own_nw hv2' hnw7) hn710)
  obtain ⟨S3, d3, rfl, _, hw3⟩ := own_read (own_nw (own_nw hv3' hnw7) hn710)
  obtain ⟨S4, d4, rfl, _, hw4⟩ := own_read (own_nw hv4 hn710)
  obtain ⟨S5, d5, rfl, _, hw5⟩ := own_read (own_nw (own_nw hv5 hnw9) hnw10)
  obtain ⟨S6, d6, rfl, _, hw6⟩ := own_read (own_nw hv6 hnw10)
  obtain ⟨S7, d7, rfl, _, hw7⟩ := own_read hv7
  go_wp2_with fail
  refine (same_any _ _ p1.length d1 d5 _ _ p1 w10 hw1 hw5 (by omega)).mono ?_
  rintro e w11 ⟨rfl, hnw11⟩
  go_wp2_with fail
  refine (same_any _ _ p2.length d2 d6 _ _ p2 w11 (hw2.nw hnw11) (hw6.nw hnw11) (by omega)).mono ?_
  rintro e w12 ⟨rfl, hnw12⟩
  go_wp2_with fail
  refine (same_any _ _ p1.length d3 d5 _ _ p1 w12 ((hw3.nw hnw11).nw hnw12) ((hw5.nw hnw11).nw hnw12) (by omega)).mono ?_
  rintro e w13 ⟨rfl, hnw13⟩
  go_wp2_with fail
  refine (same_any _ _ p3.length d4 d7 _ _ p3 w13 (((hw4.nw hnw11).nw hnw12).nw hnw13) (((hw7.nw hnw11).nw hnw12).nw hnw13) (by omega)).mono ?_
  rintro e w14 ⟨rfl, hnw14⟩
  have hn014 := ((((((hnw06.nw hnw7).nw hn710).nw hnw11).nw hnw12).nw hnw13).nw hnw14)
  have hB14 := ((((hB10.nw hnw11).nw hnw12).nw hnw13).nw hnw14)
  simp only [List.append_assoc, List.cons_append, List.nil_append] at hB14
  clear hw1 hw2 hw3 hw4 hw5 hw6 hw7 hB5 hB6 hB7 hB10 hv1' hv2' hv3'
  go_wp2_with fail
  have hB15 := hB14.nw ((Kp.refl _ w14).alloc (.cells #[.slice S1 p1.length d1, .slice S2 p2.length d2, .slice S3 p1.length d3, .slice S4 p3.length d4] 34))
  have hol := own_lit (e := 34) (size := 1) (base := 0) w14 #[.slice S1 p1.length d1, .slice S2 p2.length d2, .slice S3 p1.length d3, .slice S4 p3.length d4] 4 (by simp [maxLen]) rfl (Nat.zero_le _)
  refine (mine_any _ 4 4 _ _ _ (Rd.of_own hol) (by omega) hB15.sep (fun v hv => ?_) hB15.len (fun g hg hs => ?_)).mono ?_
  · obtain ⟨xs, hxs⟩ := hB15.own v hv
    exact ⟨xs, own_base hxs fun _ _ => Nat.zero_le _⟩
  · obtain ⟨v, hv, hvg⟩ := hs
    obtain ⟨xs, hxs⟩ := hB15.own v hv
    exact own_ty hxs hol (by decide) hvg hg
  · rintro e w16 ⟨rfl, hk16⟩
    go_wp2_with fail
    go_ret
    refine ⟨rfl, (hn014.alloc _).trans hk16 fun g hg e => ?_⟩
    obtain ⟨v, hv, hvg⟩ := e
    have := hB15.ge v hv g hvg
    have := hnw02.size
    omega

end Go.Proofs.Ytcakjjbfhbldeaa
