/- Walks of the helpers of layer 1's statements: mine. -/
import Derived.Test.YtcakjjbfhbldeaaSi
set_option linter.unusedVariables false
set_option linter.unusedSimpArgs false
namespace Go.Proofs.Ytcakjjbfhbldeaa
open Go.RowKit

theorem Try.elWs : Elem Try.prog 43 34 (.slice none 0 0) 1 24 := ⟨Try.underlying43, by kernel_rfl, rfl, by omega⟩
def MW (i : Nat) : Value := wv (1 + i)
theorem MW_eq (i : Nat) : (.int .u64 (1 + (i : Int)) : Value) = MW i := by
  unfold MW wv
  congr 1
theorem MW_one (i : Nat) : ∀ u ∈ [MW i], u.oneCell' = true := by
  intro u hu
  rw [List.mem_singleton.1 hu]
  rfl
def MWs (i : Nat) : List Value := [MW i]

set_option maxRecDepth 100000 in
set_option maxHeartbeats 6400000 in
theorem mine_any (A : Option Addr) (N c : Nat) (okH : Nat → Prop) (vs : List Value) (w : World) (hr : Rd w okH 1 A N vs) (hN : N ≤ 1000000)
    (hs : Sep vs) (ho : ∀ v ∈ vs, ∃ xs, w.ownsRow 0 27 1 v (lenIn v) xs) (hl : ∀ v ∈ vs, lenIn v ≤ 1000000000) (hok : ∀ g, okH g → ¬ Sof vs g) :
    Calls Try.prog 25 #[.slice A N c] w fun e w' => e = .returned (.bool true) ∧ Kp (Sof vs) w w' := by
  have hln : vs.length = N := hr.len
  subst hln
  have O0 : Own1 w w 27 vs MWs 0 := ⟨Kp.refl _ _, fun j v hj => by omega, fun j v _ hv => ho v (List.mem_of_getElem? hv)⟩
  have HS := Lib.hid hs
  have HL := Lib.hid hl
  have HOK := Lib.hid hok
  clear hs hl hok ho
  go_enter Try.func25, Try.ntmps25
  go_wp2
  go_loopw [3] (fun q wr => ∃ i : Nat, i ≤ vs.length ∧ q = .int .i64 i ∧ Own1 w wr 27 vs MWs i) (fun q _ => vs.length - (intOf q).toNat)
  case atStart => exact ⟨0, by omega, rfl, O0⟩
  case round =>
    obtain ⟨i, hi, rfl, hO⟩ := hrel
    by_cases hlt : i < vs.length
    · obtain ⟨ad, v, rfl, hoka, hvi, hc⟩ := (hr.kp hO.kp HOK.out).at_ hlt
      have HVI := Lib.hid hvi
      obtain ⟨xs, hx⟩ : ∃ xs, wr.ownsRow 0 27 1 v (lenIn v) xs := hO.left i v (Nat.le_refl _) hvi
      have hlv := HL.out v (List.mem_of_getElem? hvi)
      obtain ⟨B, d, hv, hd, _⟩ := own_read hx
      generalize hn : lenIn v = n at *
      have HN := Lib.hid hn
      subst hv
      have hw1 : ∃ w1 : World, w1 = wr := ⟨_, rfl⟩
      obtain ⟨w1, rfl⟩ := hw1
      have hi0 : (0 : Int) ≤ (i : Int) := by omega
      have hi1 : (i : Int) < (vs.length : Int) := by omega
      clear hvi hn
      go_wp2
      go_loopw [4] (fun q wr => ∃ k : Nat, k ≤ n ∧ q = .int .i64 k ∧ wr.ownsRow 0 27 1 (.slice B n d) n (upd (fun _ => MW i) xs k) ∧ Kp (fun g => (Value.slice B n d).ownBlock = some g) w1 wr) (fun q _ => n - (intOf q).toNat)
      case atStart => exact ⟨0, by omega, rfl, by rw [upd_zero]; exact hx, Kp.refl _ _⟩
      case round =>
        obtain ⟨k, hk, rfl, hxk, hkp⟩ := hrel
        have hrw := (hr.kp (hO.kp.trans hkp fun g _ e => ⟨_, List.mem_of_getElem? HVI.out, e⟩) HOK.out)
        obtain ⟨ad', u', hA, _, hvi', hc'⟩ := hrw.at_ hlt
        rw [HVI.out] at hvi'
        injection hvi' with hvi'
        subst hvi'
        injection hA with hA
        subst hA
        clear hrw
        have hk0 : (0 : Int) ≤ (k : Int) := by omega
        by_cases hkn : k < n
        · obtain ⟨g, d', hB, _, hgl⟩ := hxk.form (by omega)
          injection hB with hB1 _ hB3
          subst hB1
          subst hB3
          have hxl := hx.1
          rw [Nat.mul_one] at hxl
          have hce := hxk.cellAt k (by omega)
          rw [upd_get _ _ _ (by omega)] at hce
          have hz := hxk.frozenAt k
          have hst := hxk.stored k (MW i)
          rw [upd_set (fun _ => MW i) xs k (by omega)] at hst
          have HST := Lib.hid hst
          have HV := Lib.hid (MW_eq i)
          have hk1 : (k : Int) < (n : Int) := by omega
          generalize xs[k]'_ = x0 at hce
          clear hst
          go_wp2
          go_roundw
          case rel =>
            have h1 := HST.out
            rw [← HV.out] at h1
            exact ⟨k + 1, by omega, by go_num, h1.1, hkp.trans (Kp.of_grown h1.2) fun g' _ e => by injection e with e; rw [e]; rfl⟩
          case measure => simp [intOf]; omega
        · have hkk : k = n := by omega
          subst hkk
          have hxl := hx.1
          rw [Nat.mul_one] at hxl
          have hfull : Full wr 27 (MWs i) (.slice B k d) k := by
            have h2 := hxk
            rw [show upd (fun _ => MW i) xs k = List.replicate k (MW i) from by rw [← hxl]; exact upd_const (MW i) xs] at h2
            rw [← reps_single] at h2
            exact h2
          have HO2 := Lib.hid (hO.step HVI.out HS.out hkp hfull)
          clear hfull hxk hx hxl
          go_wp2
          go_roundw
          case rel => exact ⟨i + 1, by omega, by go_num, HO2.out⟩
          case measure => simp [intOf]; omega
    · have hi' : i = vs.length := by omega
      subst hi'
      have hD : ∀ j v, vs[j]? = some v → Full wr 27 (MWs j) v (lenIn v) := fun j v hv => hO.done j v (List.getElem?_eq_some_iff.1 hv).1 hv
      have hkp0 := hO.kp
      have HD := Lib.hid hD
      clear hD hO
      have HKP0 := Lib.hid hkp0
      clear hkp0
      have ei := Try.elU64
      have eb := Try.elWs
      obtain ⟨w2, rfl⟩ : ∃ w2 : World, w2 = wr := ⟨_, rfl⟩
      have hrH := hr.kp HKP0.out HOK.out
      go_wp2
      go_loopw [5, 6] (fun lv q wr => ∃ (i : Nat) (ls : List Value), i ≤ vs.length ∧ q = .int .i64 i ∧ Own2 w2 wr 27 vs ls MWs 2 i ∧ wr.ownsRow w2.heap.size 34 1 lv ls.length ls) (fun _ q _ => vs.length - (intOf q).toNat)
      case atStart => exact ⟨0, [], by omega, rfl, Own2.start HD.out, World.ownsRow_nil _ _ _ _⟩
      case round =>
        obtain ⟨i, ls, hi, rfl, hO, hlo⟩ := hrel
        have hrw := hrH.kp hO.kp HOK.out
        have hi0 : (0 : Int) ≤ (i : Int) := by omega
        by_cases hlt : i < vs.length
        · have hi1 : (i : Int) < (vs.length : Int) := by omega
          obtain ⟨ad, r, rfl, hoka, hvi, hc⟩ := hrw.at_ hlt
          have HVI := Lib.hid hvi
          have hrf := hO.rows i r hvi
          have hlv := HL.out r (List.mem_of_getElem? hvi)
          obtain ⟨B, d, hv, hd, _⟩ := own_read hrf
          generalize hn : lenIn r = n at *
          subst hv
          clear hvi hn
          obtain ⟨w1, rfl⟩ : ∃ w1 : World, w1 = wr := ⟨_, rfl⟩
          have HV := Lib.hid (MW_eq i)
          go_wp2
          go_loopw [7, 8] (fun gv q wr => ∃ k : Nat, k ≤ 40 ∧ q = .int .i64 k ∧ Full wr 27 (MWs i) gv (n + k) ∧ Full wr 27 (MWs i) (.slice B n d) n ∧ Kp (fun g => (Value.slice B n d).ownBlock = some g) w1 wr ∧ OwnAt w1 (.slice B n d) gv)
            (fun _ q _ => 40 - (intOf q).toNat)
          case atStart => exact ⟨0, by omega, rfl, hrf, hrf, Kp.refl _ _, OwnAt.refl _ _⟩
          case round =>
            obtain ⟨k, hk, rfl, hgf, hrf2, hkp, hat⟩ := hrel
            by_cases hk40 : k < 40
            · have hk1 : (k : Int) < 40 := by omega
              have hnw1 : Nw wr (wr.alloc (.cells #[.int .u64 ((1 + (i : Int)))] 27)) := (Kp.refl _ _).alloc _
              have hgf1 := hgf.nw hnw1
              have hrf3 := hrf2.nw hnw1
              have hsrc : Rd (wr.alloc (.cells #[.int .u64 ((1 + (i : Int)))] 27)) (fun _ => True) 1 (some ⟨wr.heap.size, 0, none⟩) 1 (reps 1 (MWs i)) := by
                rw [HV.out]
                exact (Rd.of_own (own_lit (e := 27) (size := 1) (base := 0) wr #[MW i] 1 (by simp [maxLen]) rfl (Nat.zero_le _))).more fun _ _ => trivial
              have hsz := hkp.size
              go_wp2_with (at_builtin; refine wpList_appS _ rfl (.tmp 49) (.tmp 53) 34 27 rfl ei 0 _ _ _ hgf1 rfl _ _ 1 1 _ hsrc rfl (reps_one _ _ (MW_one i)) (by simp only [maxLen]; omega) (by omega) (Nat.zero_le _) ?_; intro v3 w3 hown3 happ)
              go_roundw
              case rel =>
                rw [reps_add] at hown3
                have hf3 : Full w3 27 (MWs i) v3 (n + k + 1) := hown3
                exact ⟨k + 1, by omega, by go_num, hf3, hrf3.append hgf1 hf3 (by simp [MWs]) happ (by omega), hat.kp (Kp.alloc hkp _) (fun _ e => e) happ.kp, hat.trans happ.at_ (by simp; omega)⟩
              case measure => simp [intOf]; omega
            · have hkk : k = 40 := by omega
              subst hkk
              have hk1 : ¬ ((40 : Nat) : Int) < 40 := by omega
              have hnS : ∀ g, okH g → ¬ (Value.slice B n d).ownBlock = some g := fun g hg e => HOK.out g hg ⟨_, List.mem_of_getElem? HVI.out, e⟩
              have hrwX := hrw.kp hkp hnS
              have hcr := hrwX.cell_ HVI.out
              have hlo3 := own_kp hlo hkp fun g hg e => by
                have h1 := own_ge hlo hg
                have h2 := (HD.out i _ HVI.out).lt e
                omega
              clear hnS
              obtain ⟨gB, gd, hgv, _, _⟩ := own_read hgf
              subst hgv
              have hls := hO.len
              have hsz2 := hO.kp.size
              have hsz1 := hkp.size
              go_wp2_with (at_builtin; refine wpList_app1 wr _ _ rfl (.tmp 55) (.tmp 61) 43 34 rfl eb w2.heap.size _ _ _ hlo3 rfl 2 2 rfl rfl (by simp [Value.oneCell']) (by simp only [maxLen]; omega) (by omega) (by omega) ?_; intro lv5 w5 hlo5 hkp5 hat5)
              go_roundw
              case rel =>
                have hty : ∀ (us : List Value) (u : Value) (k : Nat), Full wr 27 us u k → ∀ g, u.ownBlock = some g → ¬ u5.ownBlock = some g := fun us u k h g hg => own_ty h hlo3 (by decide) hg
                refine ⟨i + 1, ls ++ [.slice gB (n + 40) gd, .slice B n d], by omega, by go_num, ?_, by simpa using hlo5⟩
                refine hO.step HVI.out HS.out HD.out rfl (Z := fun g => u5.ownBlock = some g) ?_ (fun g hg us u k hu e => own_ty hu hlo (by decide) e hg) (fun g hg => own_ge hlo hg) (hrf2.kp hkp5 (hty _ _ _ hrf2)) ?_
                · exact (hkp.mono fun _ _ e => .inl e).trans hkp5 fun _ _ e => .inr e
                · intro u hu
                  simp only [List.mem_cons, List.not_mem_nil, or_false] at hu
                  rcases hu with rfl | rfl
                  · exact ⟨hgf.kp hkp5 (hty _ _ _ hgf), hat.in_ (Nat.le_refl _)⟩
                  · exact ⟨hrf2.kp hkp5 (hty _ _ _ hrf2), fun g hg => .inl hg⟩
              case measure => simp [intOf]; omega
        · have hi' : i = vs.length := by omega
          subst hi'
          have hi1 : ¬ (vs.length : Int) < (vs.length : Int) := by omega
          have hls := hO.len
          have HLONG := Lib.hid hO.long
          have HKP2 := Lib.hid hO.kp
          obtain ⟨L, ld, hlv, hld, hlr⟩ := own_read hlo
          subst hlv
          clear hO hrw
          have hlb : ls.length ≤ 3000000 := by omega
          have HLS := Lib.hid hls
          clear hls
          go_wp2
          go_loop [9] (fun q => ∃ j : Nat, j ≤ ls.length ∧ q = .int .i64 j) (fun q => ls.length - (intOf q).toNat)
          case atStart => exact ⟨0, by omega, rfl⟩
          case round =>
            obtain ⟨j, hj, rfl⟩ := hrel
            have hj0 : (0 : Int) ≤ (j : Int) := by omega
            by_cases hjl : j < ls.length
            · have hj1 : (j : Int) < (ls.length : Int) := by omega
              obtain ⟨la, u, rfl, _, hu, hcu⟩ := hlr.at_ hjl
              have hfu := HLONG.out j u hu
              obtain ⟨U, ud, hv, hud, hur⟩ := own_read hfu
              generalize hn : lenIn u = m at *
              subst hv
              have hmb : m ≤ 9223372036854775807 := by
                rcases hfu.2 with ⟨he, h0⟩ | ⟨_, cap, _, he, _, _, h1, h2, _⟩
                · omega
                · injection he with _ _ e3
                  subst e3
                  simp only [maxLen] at h2
                  omega
              clear hn hu hfu
              go_wp2
              go_loop [10] (fun q => ∃ k : Nat, k ≤ m ∧ q = .int .i64 k) (fun q => m - (intOf q).toNat)
              case atStart => exact ⟨0, by omega, rfl⟩
              case round =>
                obtain ⟨k, hk, rfl⟩ := hrel
                have hk0 : (0 : Int) ≤ (k : Int) := by omega
                by_cases hkm : k < m
                · have hk1 : (k : Int) < (m : Int) := by omega
                  obtain ⟨ua, x, rfl, _, hx, hcx⟩ := hur.at_ hkm
                  have hxe : x = .int .u64 ((1 + (j : Int) / 2)) := by
                    have h1 : (reps m (MWs (j / 2)))[k]? = some (MW (j / 2)) := by
                      rw [show MWs (j / 2) = [MW (j / 2)] from rfl, reps_single, List.getElem?_replicate, if_pos hkm]
                    rw [h1] at hx
                    injection hx with hx
                    rw [← hx, ← MW_eq]
                    congr 1
                  subst hxe
                  go_wp2
                  go_round
                  case rel => exact ⟨k + 1, by omega, by go_num⟩
                  case measure => simp [intOf]; omega
                · go_wp2
                  go_round
                  case rel => exact ⟨j + 1, by omega, by go_num⟩
                  case measure => simp [intOf]; omega
            · go_wp2
              go_ret
              exact ⟨rfl, HKP0.out.trans HKP2.out fun _ _ e => e⟩

end Go.Proofs.Ytcakjjbfhbldeaa
