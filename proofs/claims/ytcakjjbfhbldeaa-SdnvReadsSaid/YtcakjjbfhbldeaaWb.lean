/- Walks of layer 1's statements, second part: SdnvReads. -/
import Derived.Test.YtcakjjbfhbldeaaSg
set_option linter.unusedVariables false
set_option linter.unusedSimpArgs false
namespace Go.Proofs.Ytcakjjbfhbldeaa
open Go.RowKit

set_option maxRecDepth 100000 in
set_option maxHeartbeats 1600000 in
theorem law_SdnvReads (A0 : Option Addr) (n0 c0 : Nat) (x0 : List UInt8) (A1 : Option Addr) (n1 c1 : Nat) (x1 : List UInt8) (w : World)
    (hr0 : Rd w (fun _ => True) 1 A0 n0 (bys x0)) (hc0 : n0 ≤ c0) (hb0 : c0 * 1 ≤ 140737488351232) (hr1 : Rd w (fun _ => True) 1 A1 n1 (bys x1)) (hc1 : n1 ≤ c1) (hb1 : c1 * 1 ≤ 140737488351232) :
    Calls Try.prog 4 #[.slice A0 n0 c0, .slice A1 n1 c1] w fun e w' => e = .returned (.bool true) ∧ Nw w w' := by
  have hl0 : x0.length = n0 := by have := hr0.len; rwa [bys_len] at this
  have hl1 : x1.length = n1 := by have := hr1.len; rwa [bys_len] at this
  have ho0 := hr0.old (by omega)
  have HA := Lib.hid (awake_any w)
  obtain ⟨a1, a2, a3, hq0⟩ : ∃ a b c, rdS x0 0 0 = (a, b, c) := ⟨_, _, _, rfl⟩
  obtain ⟨b1, b2, b3, hq1⟩ : ∃ a b c, rdS x1 0 0 = (a, b, c) := ⟨_, _, _, rfl⟩
  obtain ⟨d1, d2, d3, hq2⟩ : ∃ a b c, rdS (x0.map turn) 0 0 = (a, b, c) := ⟨_, _, _, rfl⟩
  have Q0 := Lib.hid hq0
  have Q1 := Lib.hid hq1
  have Q2 := Lib.hid hq2
  have L0 := Lib.hid hl0
  clear hq0 hq1 hq2 hl0 hl1
  have hn0 : n0 ≤ 140737488351232 := by omega
  have hn1 : n1 ≤ 140737488351232 := by omega
  go_enter Try.func4, Try.ntmps4
  go_wp2_with (first
    | (go_at_call 10; refine HA.out.mono ?_; rintro e w1 ⟨rfl, hnw1⟩)
    | (go_at_call 12; refine (lent_any A0 n0 c0 _ x0 w1 (hr0.nw hnw1) hn0).mono ?_; rintro e w2 ⟨g, rfl, how2, hnw2⟩))
  have hin2 : Rd w2 (fun k => k = g) 1 (some ⟨g, 0, none⟩) n0 (bys x0) := by
    have h := own_cut how2 (k := n0) (by omega)
    rw [← L0.out, List.take_left, L0.out] at h
    exact (own_slice h).more fun k e => by simpa [Value.ownBlock] using e.symm
  have hnw02 := hnw1.nw hnw2
  have hg : w.heap.size ≤ g := by have := (how2.lt g rfl).1; have := hnw1.size; omega
  have ho2 := ho0.nw hnw02
  have hr12 := hr1.nw hnw02
  refine (read_tup _ n0 (n0 + 9) _ x0 w2 hin2 (by omega) a1 a2 a3 Q0.out).mono ?_
  rintro e w' ⟨rfl, rfl⟩
  go_wp2_with fail
  refine (read_tup _ n1 c1 _ x1 w2 hr12 (by omega) b1 b2 b3 Q1.out).mono ?_
  rintro e w' ⟨rfl, rfl⟩
  go_wp2_with fail
  refine (read_tup _ n0 (n0 + 9) _ x0 w2 hin2 (by omega) a1 a2 a3 Q0.out).mono ?_
  rintro e w' ⟨rfl, rfl⟩
  go_wp2_with fail
  refine (back_any A0 n0 c0 _ x0 w2 g _ ho2 (by omega) how2 (fun k hk => by have := hk.2; omega)).mono ?_
  rintro e w3 ⟨rfl, how3, hkp3⟩
  have hnw03 : Nw w w3 := hnw02.trans hkp3 fun i hi e => by omega
  have hin3 : Rd w3 (fun _ => True) 1 (some ⟨g, 0, none⟩) n0 (bys (x0.map turn)) := by
    have h := own_cut how3 (k := n0) (by omega)
    have hl : (x0.map turn).length = n0 := by rw [List.length_map]; exact L0.out
    rw [List.map_append, ← hl, List.take_left, hl] at h
    exact (own_slice h).more fun _ _ => trivial
  have hr03 := hr0.nw hnw03
  have hr13 := hr1.nw hnw03
  go_wp2_with fail
  refine (read_tup _ n0 (n0 + 9) _ _ w3 hin3 (by omega) d1 d2 d3 Q2.out).mono ?_
  rintro e w' ⟨rfl, rfl⟩
  go_wp2_with fail
  refine (refRead_tup _ n0 c0 _ x0 w3 hr03 (by omega) a1 a2 a3 Q0.out).mono ?_
  rintro e w' ⟨rfl, rfl⟩
  go_wp2_with fail
  refine (refRead_tup _ n1 c1 _ x1 w3 hr13 (by omega) b1 b2 b3 Q1.out).mono ?_
  rintro e w' ⟨rfl, rfl⟩
  go_wp2_with fail
  refine (refRead_tup _ n0 (n0 + 9) _ _ w3 hin3 (by omega) d1 d2 d3 Q2.out).mono ?_
  rintro e w' ⟨rfl, rfl⟩
  go_wp2_with fail
  go_ret
  exact ⟨rfl, hnw03⟩

end Go.Proofs.Ytcakjjbfhbldeaa
