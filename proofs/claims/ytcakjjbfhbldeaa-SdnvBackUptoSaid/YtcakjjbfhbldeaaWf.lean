/- Walks of layer 1's statements, fifth part: SdnvBack. -/
import Derived.Test.YtcakjjbfhbldeaaSh
set_option linter.unusedVariables false
set_option linter.unusedSimpArgs false
namespace Go.Proofs.Ytcakjjbfhbldeaa
open Go.RowKit

theorem own_empty (w : World) (e base : Nat) (hb : base ≤ w.heap.size) :
    (w.alloc (.cells #[] e)).ownsRow base e 1 (.slice (some ⟨w.heap.size, 0, none⟩) 0 0) 0 (bys []) := own_lit (size := 1) w #[] 0 (by simp [maxLen]) rfl hb

set_option maxRecDepth 100000 in
set_option maxHeartbeats 3200000 in
theorem law_SdnvBack (A0 : Option Addr) (n0 c0 : Nat) (l : List Nat) (A1 : Option Addr) (n1 c1 : Nat) (x1 : List UInt8) (w : World)
    (hr0 : Rd w (fun _ => True) 1 A0 n0 (wds l)) (hl : ∀ x ∈ l, x < 18446744073709551616) (hc0 : n0 ≤ c0) (hb0 : c0 ≤ 1048576) (hr1 : Rd w (fun _ => True) 1 A1 n1 (bys x1)) (hc1 : n1 ≤ c1) (hb1 : c1 ≤ 1048576) :
    Calls Try.prog 8 #[.slice A0 n0 c0, .slice A1 n1 c1] w fun e w' => e = .returned (.bool true) ∧ Nw w w' := by
  have hl0 : l.length = n0 := by have := hr0.len; rwa [wds_len] at this
  have hl1 : x1.length = n1 := by have := hr1.len; rwa [bys_len] at this
  subst hl0
  have HA := Lib.hid (awake_any w)
  have HL1 := Lib.hid hl1
  have HLL := Lib.hid hl
  have ei := Try.elU8
  clear hl1 hl
  go_enter Try.func8, Try.ntmps8
  go_wp2_with (go_at_call 10; refine HA.out.mono ?_; rintro e w1 ⟨rfl, hnw1⟩)
  go_loopw [6] (fun i wr => ∃ k : Nat, k ≤ l.length ∧ i = .int .i64 k ∧ Nw w wr) (fun i _ => l.length - (intOf i).toNat)
  case atStart => exact ⟨0, by omega, rfl, hnw1⟩
  case round =>
    obtain ⟨k, hk, rfl, hnw⟩ := hrel
    by_cases hlt : k < l.length
    · obtain ⟨ad, rfl, _, hc⟩ := (hr0.nw hnw).word hlt
      have hx := HLL.out _ (List.getElem_mem hlt)
      generalize l[k] = x at *
      have HB := Lib.hid (fun W => bytes_any (x : Int) W (by omega) (by omega))
      have HS := Lib.hid (fun W => size_any (x : Int) W (by omega) (by omega))
      have HE := Lib.hid (rdS_enc (n := x) x1 hx)
      have hs2 := siz_le hx
      rw [Int.toNat_natCast] at HB HS
      clear hx
      go_wp2_with (go_at_call 16; refine (HB.out _).mono ?_; rintro e w2 ⟨v2, rfl, hown2, hnw2⟩; obtain ⟨B2, d2, rfl, hd2, hrd2⟩ := own_read hown2; have hc2 := (Kp.cell hnw2 (World.block_lt_of_cell? _ _ hc) (fun e => e)).trans hc)
      refine (HS.out _).mono ?_
      rintro e w' ⟨rfl, rfl⟩
      have hr12 := hr1.nw (hnw.nw hnw2)
      have ho2 := own_empty w2 5 w2.heap.size (Nat.le_refl _)
      go_wp2_with (first
        | (at_builtin; refine wpList_appv _ rfl (.tmp 33) (.tmp 34) 25 5 rfl ei w2.heap.size _ _ _ ho2 rfl _ B2 _ d2 _ (hrd2.alloc _) rfl (bys_one _) (by simp only [maxLen]; omega) (by omega) (by simp) ?_; intro v3 w3 hown3 hkp3 hat3; rw [Nat.zero_add] at hown3; have hnw3 : Nw w2 w3 := ((Kp.refl _ w2).alloc _).trans hkp3 (fun i hi e => by simp [Value.ownBlock] at e; omega); have hown3' : w3.ownsRow w2.heap.size 5 1 v3 (siz x) (bys (enc x)) := hown3; have hr13 := hr12.nw hnw3; clear hown3 hkp3 hat3)
        | (at_builtin; refine wpList_appv _ rfl (.tmp 35) (.tmp 36) 25 5 rfl ei w2.heap.size _ _ _ hown3' rfl _ A1 _ c1 _ hr13 rfl (bys_one _) (by simp only [maxLen]; omega) (by omega) hnw3.size ?_; intro v4 w4 hown4 hkp4 hat4; have hnw4 : Nw w2 w4 := Nw.row hnw3 hown3' hkp4; rw [← bys_app] at hown4; obtain ⟨B4, d4, rfl, hd4, hrd4⟩ := own_read hown4; clear hkp4 hat4))
      have hc4 := (Kp.cell hnw4 (World.block_lt_of_cell? _ _ hc2) (fun e => e)).trans hc2
      refine (read_tup _ _ d4 _ _ w4 hrd4 (by omega) _ _ _ HE.out).mono ?_
      rintro e w' ⟨rfl, rfl⟩
      go_wp2_with fail
      go_roundw
      case rel => exact ⟨k + 1, by omega, by go_num, (hnw.nw hnw2).nw hnw4⟩
      case measure => simp [intOf]; omega
    · have hnwr := hnw
      have hlast := hr0.nw hnw
      have HJ := Lib.hid (join_any A0 l.length c0 _ l wr hlast HLL.out (by omega))
      have HN := Lib.hid (joinE_len l HLL.out)
      have hjl : (joinE l).length ≤ 10 * l.length := HN.out
      have HAJ := Lib.hid (allS_join l HLL.out)
      clear HN
      go_wp2_with (go_at_call 19; refine HJ.out.mono ?_; rintro e w2 ⟨v2, rfl, hown2, hnw2⟩; obtain ⟨B2, d2, rfl, hd2, hrd2⟩ := own_read hown2)
      refine (all_any B2 _ d2 _ _ w2 hrd2 hd2 (by omega)).mono ?_
      rw [HAJ.out]
      rintro e w3 ⟨v3, rfl, hown3, hnw3⟩
      obtain ⟨B3, d3, rfl, hd3, hrd3⟩ := own_read hown3
      have hr3 := (hlast.nw hnw2).nw hnw3
      go_wp2_with fail
      refine (same_any _ _ l.length d3 c0 _ _ l w3 hrd3 hr3 (by omega)).mono ?_
      rintro e w4 ⟨rfl, hnw4⟩
      go_wp2_with fail
      go_ret
      exact ⟨rfl, ((hnw.nw hnw2).nw hnw3).nw hnw4⟩

end Go.Proofs.Ytcakjjbfhbldeaa
