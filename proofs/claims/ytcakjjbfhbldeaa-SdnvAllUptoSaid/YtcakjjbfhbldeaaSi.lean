/- Walks of the helpers of layer 1's statements, fourth part: owned. -/
import Derived.Test.YtcakjjbfhbldeaaSg
import Derived.Test.YtcakjjbfhbldeaaOw
set_option linter.unusedVariables false
set_option linter.unusedSimpArgs false
namespace Go.Proofs.Ytcakjjbfhbldeaa
open Go.RowKit

theorem Try.elBs : Elem Try.prog 36 25 (.slice none 0 0) 1 24 := ⟨Try.underlying36, by kernel_rfl, rfl, by omega⟩

/-- The mark of row i. -/
def mkb (i : Nat) : UInt8 := UInt8.ofNat (1 + i)
def MV (i : Nat) : Value := bv (mkb i)
theorem MV_eq (i : Nat) : (.int .u8 ((1 + (i : Int)) % 256) : Value) = MV i := by
  unfold MV mkb bv
  congr 1
theorem MV_one (i : Nat) : ∀ u ∈ [MV i], u.oneCell' = true := by
  intro u hu
  rw [List.mem_singleton.1 hu]
  rfl
theorem upd_const {α : Type} (a : α) (l : List α) : upd (fun _ => a) l l.length = List.replicate l.length a := by
  rw [upd_all _ _ _ (Nat.le_refl _), List.map_const']

def MVs (i : Nat) : List Value := [MV i]
set_option maxRecDepth 100000 in
set_option maxHeartbeats 6400000 in
theorem owned_any (A : Option Addr) (N c : Nat) (okH : Nat → Prop) (vs : List Value) (w : World) (hr : Rd w okH 1 A N vs) (hN : N ≤ 1000000)
    (hs : Sep vs) (ho : ∀ v ∈ vs, ∃ xs, w.ownsRow 0 5 1 v (lenIn v) xs) (hl : ∀ v ∈ vs, lenIn v ≤ 1000000000) (hok : ∀ g, okH g → ¬ Sof vs g) :
    Calls Try.prog 21 #[.slice A N c] w fun e w' => e = .returned (.bool true) ∧ Kp (Sof vs) w w' := by
  have hln : vs.length = N := hr.len
  subst hln
  have O0 : Own1 w w 5 vs MVs 0 := ⟨Kp.refl _ _, fun j v hj => by omega, fun j v _ hv => ho v (List.mem_of_getElem? hv)⟩
  have HS := Lib.hid hs
  have HL := Lib.hid hl
  have HOK := Lib.hid hok
  clear hs hl hok ho
  go_enter Try.func21, Try.ntmps21
  go_wp2
  go_loopw [3] (fun q wr => ∃ i : Nat, i ≤ vs.length ∧ q = .int .i64 i ∧ Own1 w wr 5 vs MVs i) (fun q _ => vs.length - (intOf q).toNat)
  case atStart => exact ⟨0, by omega, rfl, O0⟩
  case round =>
    obtain ⟨i, hi, rfl, hO⟩ := hrel
    by_cases hlt : i < vs.length
    · obtain ⟨ad, v, rfl, hoka, hvi, hc⟩ := (hr.kp hO.kp HOK.out).at_ hlt
      have HVI := Lib.hid hvi
      obtain ⟨xs, hx⟩ : ∃ xs, wr.ownsRow 0 5 1 v (lenIn v) xs := hO.left i v (Nat.le_refl _) hvi
      have hlv := HL.out v (List.mem_of_getElem? hvi)
      obtain ⟨B, d, hv, hd, _⟩ := own_read hx
      generalize hn : lenIn v = n at *
      have HN := Lib.hid hn
      subst hv
      have hw1 : ∃ w1 : World, w1 = wr := ⟨_, rfl⟩
      obtain ⟨w1, rfl⟩ := hw1
      have hi0 : (0 : Int) ≤ (i : Int) := by omega
      have hi1 : (i : Int) < (vs.length : Int) := by omega
      clear hvi hn
      go_wp2
      go_loopw [4] (fun q wr => ∃ k : Nat, k ≤ n ∧ q = .int .i64 k ∧ wr.ownsRow 0 5 1 (.slice B n d) n (upd (fun _ => MV i) xs k) ∧ Kp (fun g => (Value.slice B n d).ownBlock = some g) w1 wr) (fun q _ => n - (intOf q).toNat)
      case atStart => exact ⟨0, by omega, rfl, by rw [upd_zero]; exact hx, Kp.refl _ _⟩
      case round =>
        obtain ⟨k, hk, rfl, hxk, hkp⟩ := hrel
        have hrw := (hr.kp (hO.kp.trans hkp fun g _ e => ⟨_, List.mem_of_getElem? HVI.out, e⟩) HOK.out)
        obtain ⟨ad', u', hA, _, hvi', hc'⟩ := hrw.at_ hlt
        rw [HVI.out] at hvi'
        injection hvi' with hvi'
        subst hvi'
        injection hA with hA
        subst hA
        clear hrw
        have hk0 : (0 : Int) ≤ (k : Int) := by omega
        by_cases hkn : k < n
        · obtain ⟨g, d', hB, _, hgl⟩ := hxk.form (by omega)
          injection hB with hB1 _ hB3
          subst hB1
          subst hB3
          have hxl := hx.1
          rw [Nat.mul_one] at hxl
          have hce := hxk.cellAt k (by omega)
          rw [upd_get _ _ _ (by omega)] at hce
          have hz := hxk.frozenAt k
          have hst := hxk.stored k (MV i)
          rw [upd_set (fun _ => MV i) xs k (by omega)] at hst
          have HST := Lib.hid hst
          have HV := Lib.hid (MV_eq i)
          have hk1 : (k : Int) < (n : Int) := by omega
          generalize xs[k]'_ = x0 at hce
          clear hst
          go_wp2
          go_roundw
          case rel =>
            have h1 := HST.out
            rw [← HV.out] at h1
            exact ⟨k + 1, by omega, by go_num, h1.1, hkp.trans (Kp.of_grown h1.2) fun g' _ e => by injection e with e; rw [e]; rfl⟩
          case measure => simp [intOf]; omega
        · have hkk : k = n := by omega
          subst hkk
          have hxl := hx.1
          rw [Nat.mul_one] at hxl
          have hfull : Full wr 5 (MVs i) (.slice B k d) k := by
            have h2 := hxk
            rw [show upd (fun _ => MV i) xs k = List.replicate k (MV i) from by rw [← hxl]; exact upd_const (MV i) xs] at h2
            rw [← reps_single] at h2
            exact h2
          have HO2 := Lib.hid (hO.step HVI.out HS.out hkp hfull)
          clear hfull hxk hx hxl
          go_wp2
          go_roundw
          case rel => exact ⟨i + 1, by omega, by go_num, HO2.out⟩
          case measure => simp [intOf]; omega
    · have hi' : i = vs.length := by omega
      subst hi'
      have hD : ∀ j v, vs[j]? = some v → Full wr 5 (MVs j) v (lenIn v) := fun j v hv => hO.done j v (List.getElem?_eq_some_iff.1 hv).1 hv
      have hkp0 := hO.kp
      have HD := Lib.hid hD
      clear hD hO
      have HKP0 := Lib.hid hkp0
      clear hkp0
      have ei := Try.elU8
      have eb := Try.elBs
      have hmk : ∀ W : World, (Instr.makeSlice 25 (.int .i64 70) (.int .i64 70)).run Try.prog W = .ok (.slice (some ⟨W.heap.size, 0, none⟩) 70 70) (W.alloc (.cells (madeCells #[.int .u8 0] 70) 5)) := fun W =>
        run_mk Try.elU8 70 70 (Nat.le_refl _) (by omega) (by omega) W
      have HMK := Lib.hid hmk
      clear hmk
      obtain ⟨w2, rfl⟩ : ∃ w2 : World, w2 = wr := ⟨_, rfl⟩
      have hrH := hr.kp HKP0.out HOK.out
      go_wp2
      go_loopw [5, 6] (fun lv q wr => ∃ (i : Nat) (ls : List Value), i ≤ vs.length ∧ q = .int .i64 i ∧ Own2 w2 wr 5 vs ls MVs 3 i ∧ wr.ownsRow w2.heap.size 25 1 lv ls.length ls) (fun _ q _ => vs.length - (intOf q).toNat)
      case atStart => exact ⟨0, [], by omega, rfl, Own2.start HD.out, World.ownsRow_nil _ _ _ _⟩
      case round =>
        obtain ⟨i, ls, hi, rfl, hO, hlo⟩ := hrel
        have hrw := hrH.kp hO.kp HOK.out
        have hi0 : (0 : Int) ≤ (i : Int) := by omega
        by_cases hlt : i < vs.length
        · have hi1 : (i : Int) < (vs.length : Int) := by omega
          obtain ⟨ad, r, rfl, hoka, hvi, hc⟩ := hrw.at_ hlt
          have HVI := Lib.hid hvi
          have hrf := hO.rows i r hvi
          have hlv := HL.out r (List.mem_of_getElem? hvi)
          obtain ⟨B, d, hv, hd, _⟩ := own_read hrf
          generalize hn : lenIn r = n at *
          subst hv
          clear hvi hn
          obtain ⟨w1, rfl⟩ : ∃ w1 : World, w1 = wr := ⟨_, rfl⟩
          have HV := Lib.hid (MV_eq i)
          go_wp2
          go_loopw [7, 8] (fun gv q wr => ∃ k : Nat, k ≤ 20 ∧ q = .int .i64 k ∧ Full wr 5 (MVs i) gv (n + k) ∧ Full wr 5 (MVs i) (.slice B n d) n ∧ Kp (fun g => (Value.slice B n d).ownBlock = some g) w1 wr ∧ OwnAt w1 (.slice B n d) gv)
            (fun _ q _ => 20 - (intOf q).toNat)
          case atStart => exact ⟨0, by omega, rfl, hrf, hrf, Kp.refl _ _, OwnAt.refl _ _⟩
          case round =>
            obtain ⟨k, hk, rfl, hgf, hrf2, hkp, hat⟩ := hrel
            by_cases hk20 : k < 20
            · have hk1 : (k : Int) < 20 := by omega
              have hnw1 : Nw wr (wr.alloc (.cells #[.int .u8 ((1 + (i : Int)) % 256)] 5)) := (Kp.refl _ _).alloc _
              have hgf1 := hgf.nw hnw1
              have hrf3 := hrf2.nw hnw1
              have hsrc : Rd (wr.alloc (.cells #[.int .u8 ((1 + (i : Int)) % 256)] 5)) (fun _ => True) 1 (some ⟨wr.heap.size, 0, none⟩) 1 (reps 1 (MVs i)) := by
                rw [HV.out]
                exact (Rd.of_own (own_lit (e := 5) (size := 1) (base := 0) wr #[MV i] 1 (by simp [maxLen]) rfl (Nat.zero_le _))).more fun _ _ => trivial
              have hsz := hkp.size
              go_wp2_with (at_builtin; refine wpList_appS _ rfl (.tmp 52) (.tmp 56) 25 5 rfl ei 0 _ _ _ hgf1 rfl _ _ 1 1 _ hsrc rfl (reps_one _ _ (MV_one i)) (by simp only [maxLen]; omega) (by omega) (Nat.zero_le _) ?_; intro v3 w3 hown3 happ)
              go_roundw
              case rel =>
                rw [reps_add] at hown3
                have hf3 : Full w3 5 (MVs i) v3 (n + k + 1) := hown3
                exact ⟨k + 1, by omega, by go_num, hf3, hrf3.append hgf1 hf3 (by simp [MVs]) happ (by omega), hat.kp (Kp.alloc hkp _) (fun _ e => e) happ.kp, hat.trans happ.at_ (by simp; omega)⟩
              case measure => simp [intOf]; omega
            · have hkk : k = 20 := by omega
              subst hkk
              have hk1 : ¬ ((20 : Nat) : Int) < 20 := by omega
              have HGF := Lib.hid hgf
              obtain ⟨w3, rfl⟩ : ∃ w3 : World, w3 = wr := ⟨_, rfl⟩
              have hmk := HMK.out
              have hz : (w3.alloc (.cells (madeCells #[.int .u8 0] 70) 5)).ownsRow 0 5 1 (.slice (some ⟨w3.heap.size, 0, none⟩) 70 70) 70 (madeCells #[.int .u8 0] 70).toList :=
                own_full (e := 5) (size := 1) (base := 0) w3 #[.int .u8 0] 70 (by simp [maxLen]) (Nat.zero_le _)
              have hzl := hz.1
              generalize hzz : (madeCells #[.int .u8 0] 70) = zz at *
              clear hzz
              have hnw3 : Nw w3 (w3.alloc (.cells zz 5)) := (Kp.refl _ _).alloc _
              go_wp2
              go_loopw [10] (fun q wr => ∃ k : Nat, k ≤ 70 ∧ q = .int .i64 k ∧ wr.ownsRow 0 5 1 (.slice (some ⟨w3.heap.size, 0, none⟩) 70 70) 70 (upd (fun _ => MV i) zz.toList k) ∧ Nw w3 wr)
                (fun q _ => 70 - (intOf q).toNat)
              case atStart => exact ⟨0, by omega, rfl, by rw [upd_zero]; exact hz, hnw3⟩
              case round =>
                obtain ⟨k, hk, rfl, hmo, hnw⟩ := hrel
                by_cases hk70 : k < 70
                · have hk1 : (k : Int) < 70 := by omega
                  have hk0 : (0 : Int) ≤ (k : Int) := by omega
                  have hce := hmo.cellAt k (by omega)
                  rw [upd_get _ _ _ (by omega)] at hce
                  have hfz := hmo.frozenAt k
                  have hst := hmo.stored k (MV i)
                  rw [upd_set (fun _ => MV i) zz.toList k (by omega)] at hst
                  have HST := Lib.hid hst
                  generalize zz.toList[k]'_ = x0 at hce
                  clear hst
                  go_wp2
                  go_roundw
                  case rel =>
                    have h1 := HST.out
                    rw [← HV.out] at h1
                    exact ⟨k + 1, by omega, by go_num, h1.1, hnw.trans (Kp.of_grown h1.2) fun g' hg' e => by injection e with e; omega⟩
                  case measure => simp [intOf]; omega
                · have hkk : k = 70 := by omega
                  subst hkk
                  have hk1 : ¬ ((70 : Nat) : Int) < 70 := by omega
                  have hmf : Full wr 5 (MVs i) (.slice (some ⟨w3.heap.size, 0, none⟩) 70 70) 70 := by
                    have h2 := hmo
                    have hl70 : zz.toList.length = 70 := by omega
                    rw [show upd (fun _ => MV i) zz.toList 70 = List.replicate 70 (MV i) from by rw [← hl70]; exact upd_const (MV i) _] at h2
                    rw [← reps_single] at h2
                    exact h2
                  have hsrc := (Rd.of_own hmf).more (ok' := fun _ => True) fun _ _ => trivial
                  have hkp3 : Kp (fun g => (Value.slice B n d).ownBlock = some g) w1 wr := Kp.nw hkp hnw
                  have hgf3 := HGF.out.nw hnw
                  have hrf3 := hrf2.nw hnw
                  have hnS : ∀ g, okH g → ¬ (Value.slice B n d).ownBlock = some g := fun g hg e => HOK.out g hg ⟨_, List.mem_of_getElem? HVI.out, e⟩
                  have hrwX := hrw.kp hkp3 hnS
                  have hcr := hrwX.cell_ HVI.out
                  have HNS := Lib.hid hnS
                  have hlo3 := own_kp hlo hkp3 fun g hg e => by
                    have h1 := own_ge hlo hg
                    have h2 := (HD.out i _ HVI.out).lt e
                    omega
                  have HLT := Lib.hid (fun g (e : (Value.slice B n d).ownBlock = some g) => (HD.out i _ HVI.out).lt e)
                  clear hnS
                  have hs3 := hnw.size
                  have hs1 := hkp.size
                  obtain ⟨gB, gd, hgv, _, _⟩ := own_read hgf3
                  subst hgv
                  clear hmo hmf hz hzl
                  have hls := hO.len
                  have hsz2 := hO.kp.size
                  go_wp2_with (first
                    | (at_builtin; refine wpList_appS _ rfl (.tmp 72) (.tmp 73) 25 5 rfl ei 0 _ _ _ hrf3 rfl _ _ 70 70 _ hsrc rfl (reps_one _ _ (MV_one i)) (by simp only [maxLen]; omega) (by omega) (Nat.zero_le _) ?_; intro v4 w4 hown4 happ; have hcr4 := (hrwX.kp happ.kp HNS.out).cell_ HVI.out; obtain ⟨hB4, hd4, hv4, _, _⟩ := own_read hown4; subst hv4; have hlo4 := own_kp hlo3 happ.kp (fun g hg e => by have h1 := own_ge hlo3 hg; have h2 := HLT.out g e; omega); have hs4 := happ.kp.size)
                    | (at_builtin; refine wpList_app1 w4 _ _ rfl (.tmp 75) (.tmp 82) 36 25 rfl eb w2.heap.size _ _ _ hlo4 rfl 3 3 rfl rfl (by simp [Value.oneCell']) (by simp only [maxLen]; omega) (by omega) (by omega) ?_; intro lv5 w5 hlo5 hkp5 hat5))
                  go_roundw
                  case rel =>
                    rw [reps_add] at hown4
                    have hF4 : Full w4 5 (MVs i) (.slice hB4 (n + 70) hd4) (n + 70) := hown4
                    have hr4 := hrf3.append hrf3 hF4 (by simp [MVs]) happ (by omega)
                    have hg4 := hgf3.append hrf3 hF4 (by simp [MVs]) happ (by omega)
                    have hty : ∀ (us : List Value) (u : Value) (k : Nat), Full w4 5 us u k → ∀ g, u.ownBlock = some g → ¬ u5.ownBlock = some g := fun us u k h g hg => own_ty h hlo4 (by decide) hg
                    refine ⟨i + 1, ls ++ [.slice gB (n + 20) gd, .slice hB4 (n + 70) hd4, .slice B n d], by omega, by go_num, ?_, by simpa using hlo5⟩
                    refine hO.step HVI.out HS.out HD.out rfl (Z := fun g => u5.ownBlock = some g) ?_ (fun g hg us u k hu e => own_ty hu hlo (by decide) e hg) (fun g hg => own_ge hlo hg) (hr4.kp hkp5 (hty _ _ _ hr4)) ?_
                    · exact ((hkp3.trans happ.kp fun _ _ e => e).mono fun _ _ e => .inl e).trans hkp5 fun _ _ e => .inr e
                    · intro u hu
                      simp only [List.mem_cons, List.not_mem_nil, or_false] at hu
                      rcases hu with rfl | rfl | rfl
                      · exact ⟨hg4.kp hkp5 (hty _ _ _ hg4), hat.in_ (Nat.le_refl _)⟩
                      · exact ⟨hF4.kp hkp5 (hty _ _ _ hF4), happ.at_.in_ hkp3.size⟩
                      · exact ⟨hr4.kp hkp5 (hty _ _ _ hr4), fun g hg => .inl hg⟩
                  case measure => simp [intOf]; omega
        · have hi' : i = vs.length := by omega
          subst hi'
          have hi1 : ¬ (vs.length : Int) < (vs.length : Int) := by omega
          have hls := hO.len
          have HLONG := Lib.hid hO.long
          have HKP2 := Lib.hid hO.kp
          obtain ⟨L, ld, hlv, hld, hlr⟩ := own_read hlo
          subst hlv
          clear hO hrw
          have hlb : ls.length ≤ 3000000 := by omega
          have HLS := Lib.hid hls
          clear hls
          go_wp2
          go_loop [12] (fun q => ∃ j : Nat, j ≤ ls.length ∧ q = .int .i64 j) (fun q => ls.length - (intOf q).toNat)
          case atStart => exact ⟨0, by omega, rfl⟩
          case round =>
            obtain ⟨j, hj, rfl⟩ := hrel
            have hj0 : (0 : Int) ≤ (j : Int) := by omega
            by_cases hjl : j < ls.length
            · have hj1 : (j : Int) < (ls.length : Int) := by omega
              obtain ⟨la, u, rfl, _, hu, hcu⟩ := hlr.at_ hjl
              have hfu := HLONG.out j u hu
              obtain ⟨U, ud, hv, hud, hur⟩ := own_read hfu
              generalize hn : lenIn u = m at *
              subst hv
              have hmb : m ≤ 9223372036854775807 := by
                rcases hfu.2 with ⟨he, h0⟩ | ⟨_, cap, _, he, _, _, h1, h2, _⟩
                · omega
                · injection he with _ _ e3
                  subst e3
                  simp only [maxLen] at h2
                  omega
              clear hn hu hfu
              go_wp2
              go_loop [13] (fun q => ∃ k : Nat, k ≤ m ∧ q = .int .i64 k) (fun q => m - (intOf q).toNat)
              case atStart => exact ⟨0, by omega, rfl⟩
              case round =>
                obtain ⟨k, hk, rfl⟩ := hrel
                have hk0 : (0 : Int) ≤ (k : Int) := by omega
                by_cases hkm : k < m
                · have hk1 : (k : Int) < (m : Int) := by omega
                  obtain ⟨ua, x, rfl, _, hx, hcx⟩ := hur.at_ hkm
                  have hxe : x = .int .u8 ((1 + (j : Int) / 3) % 256) := by
                    have h1 : (reps m (MVs (j / 3)))[k]? = some (MV (j / 3)) := by
                      rw [show MVs (j / 3) = [MV (j / 3)] from rfl, reps_single, List.getElem?_replicate, if_pos hkm]
                    rw [h1] at hx
                    injection hx with hx
                    rw [← hx, ← MV_eq]
                    congr 1
                  subst hxe
                  go_wp2
                  go_round
                  case rel => exact ⟨k + 1, by omega, by go_num⟩
                  case measure => simp [intOf]; omega
                · go_wp2
                  go_round
                  case rel => exact ⟨j + 1, by omega, by go_num⟩
                  case measure => simp [intOf]; omega
            · go_wp2
              go_ret
              exact ⟨rfl, HKP0.out.trans HKP2.out fun _ _ e => e⟩

end Go.Proofs.Ytcakjjbfhbldeaa
