/- Frames: the law RecordFrames walked. -/
import Derived.Test.YtjgnapjhlhdgfaaDoorEe
set_option linter.unusedVariables false
set_option linter.unusedSimpArgs false
namespace Go.Proofs.YtjgnapjhlhdgfaaDoor
open Go.RowKit

set_option maxRecDepth 100000 in
set_option maxHeartbeats 25600000 in
theorem law_RecordFrames (A : Option Addr) (N c : Nat) (L : List RSt) (la : List Rc) (cut : Int) (Bb : Option Addr) (nb cb : Nat) (xs : List UInt8) (w : World) (hT : TabOk w)
    (hr : RowR w (fun _ => True) A N L la) (hN : N ≤ 1048576) (hwt : wt L ≤ 1048576) (h0c : -9223372036854775808 ≤ cut) (h1c : cut ≤ 9223372036854775807) (hrb : Rd w (fun _ => True) 1 Bb nb (bys xs)) (hnb : nb ≤ cb) (hcb : cb ≤ 1048576) :
    Calls Tryd.prog 5 #[.slice A N c, .int .i64 cut, .slice Bb nb cb] w fun e w' => e = .returned (.bool true) ∧ Nw w w' := by
  have HR := Lib.hid hr.inb
  have HRB := Lib.hid (hrb.inb (by omega))
  have HT := Lib.hid hT
  have HLN := Lib.hid hr.lenN
  have HLA : Hid (la.length = N) := Lib.hid (by rw [hr.len, hr.lenN])
  have HWF := Lib.hid hr.wf
  have HB : Hid (∀ s ∈ L, s.a.sn ≤ 1048576 ∧ s.a.dn ≤ 1048576) := Lib.hid fun s hs => by have := wt_mem hs; omega
  have hfl := frO_wt hr.wf
  rw [hr.lenN] at hfl
  obtain ⟨F, hF⟩ : ∃ F, frO L = F := ⟨_, rfl⟩
  obtain ⟨q, hq⟩ : ∃ q, errR (okL L) = .int .i64 q := ⟨_, rfl⟩
  obtain ⟨fl, hfle⟩ : ∃ fl, F.length = fl := ⟨_, rfl⟩
  rw [hF, hfle] at hfl
  have HFR : Hid (∀ w0 e w', FrPost w0 L e w' → ∃ v, e = .returned (.tuple #[v, .int .i64 q]) ∧ w'.ownsRow w0.heap.size 5 1 v fl (bys F) ∧ Nw w0 w') := Lib.hid fun w0 e w' h => by
    obtain ⟨v, he, ho, hn⟩ := h
    rw [hq] at he
    rw [hF, hfle] at ho
    exact ⟨v, he, ho, hn⟩
  have hfl2 : fl ≤ 200000000 := by omega
  have eb := Tryd.elU8
  have eR := Tryd.elRc
  have hqq : ((q : Int) != (q : Int)) = false := by simp
  clear hr hrb hT hF hq hfle hfl
  go_enter Tryd.func5, Tryd.ntmps5
  go_wp2_with fail
  refine (awake_any _).mono ?_
  rintro e w1 ⟨rfl, hn1⟩
  go_wp2_with fail
  refine (refframe_any A N c _ L la w1 (HR.out.nw hn1) (by omega) (fun s hs => by have := HB.out s hs; omega)).mono ?_
  intro e w2 h
  obtain ⟨v8, rfl, ho8, hn2⟩ := HFR.out _ _ _ h
  clear h
  obtain ⟨A8, c8, rfl, hc8, _⟩ := own_read ho8
  have HO8 := Lib.hid ho8
  have hn02 := hn1.nw hn2
  have hs1 := hn1.size
  have hs2 := hn2.size
  have h00 := Lib.hid (show LW w2.heap.size w2 (L.take 0) [] (.slice none 0 0) from LW.nil _ _)
  clear ho8
  go_wp2_with fail
  go_loopw [10, 11] (fun v i wr => ∃ (k : Nat) (lb : List Rc), k ≤ N ∧ i = .int .i64 k ∧ Hid (LW w2.heap.size wr (L.take k) lb v) ∧ Nw w2 wr) (fun _ i _ => N - (intOf i).toNat)
  case atStart => exact ⟨0, [], by omega, rfl, h00, Kp.refl _ _⟩
  case round =>
    obtain ⟨k, lb, hk, rfl, HLW, hnw⟩ := hrel
    by_cases hlt : k < N
    · as_aux_lemma =>
        have hRw := HR.out.nw (hn02.nw hnw)
        obtain ⟨ad, rfl, _, hcs, _, _⟩ := hRw.row.rec_ (i := k) (by rw [HLA.out]; exact hlt)
        obtain ⟨s, hLk⟩ : ∃ s, L[k]? = some s := ⟨_, List.getElem?_eq_getElem (by rw [HLN.out]; exact hlt)⟩
        have hak : la[k]? = some (la[k]'(by rw [HLA.out]; exact hlt)) := List.getElem?_eq_getElem _
        generalize (la[k]'(by rw [HLA.out]; exact hlt)) = a at *
        obtain ⟨S, sc, D, dc, rfl, hrS, hrD⟩ := hRw.each k s a hLk hak
        have hbb := HB.out s (List.mem_of_getElem? hLk)
        have hww := Lib.hid (HWF.out s (List.mem_of_getElem? hLk))
        have HLE := Lib.hid (lent_any (s.a.at_ S sc D dc) _ _ s.sp s.dt wr hrS hrD (by show s.a.sn ≤ _; omega) (by show s.a.dn ≤ _; omega))
        have HCS := Lib.hid hcs
        have HTK := Lib.hid (take_snoc' hLk)
        have hlb : Hid (lb.length = k) := Lib.hid (by rw [HLW.out.rws.len, List.length_take, HLN.out]; omega)
        have h0 : (0 : Int) ≤ (k : Int) := by omega
        have h1 : (k : Int) < (N : Int) := by omega
        clear hcs hak hrS hrD hRw hLk
        go_wp2_with ((with_reducible refine opAt 39 ?_); (refine wpList_load_at rfl 36 _ rfl (ad.add (k * 11)) rfl (s.a.at_ S sc D dc).cells _ HCS.out Tryd.underlying36 rfl (by kernel_rfl) ?_))
        refine HLE.out.mono ?_
        rintro e w3 ⟨gS, gD, rfl, hD, hS, hn3⟩
        have hs3 := hn3.size
        have hs0 := hnw.size
        have hrow := own_nw HLW.out.rws.row hn3
        rw [hlb.out] at hrow
        unfold Rc.val
        go_upto_region 6 with (first | ((with_reducible refine opAt 41 ?_); (refine wpList_build1 rfl 28 36 (.tmp 40) rfl eR (s.a.at_ (some ⟨gS, 0, none⟩) (s.a.sn + 2) (some ⟨gD, 0, none⟩) (s.a.dn + 2)).cells rfl rfl (by omega) ?_)) | (at_builtin; (refine wpList_app1 w3 (s.a.at_ (some ⟨gS, 0, none⟩) (s.a.sn + 2) (some ⟨gD, 0, none⟩) (s.a.dn + 2)).cells _ rfl (.tmp 35) (.tmp 41) 28 36 rfl eR w2.heap.size _ _ _ hrow rfl 1 1 rfl rfl (cells_one' _) (by simp only [maxLen]; omega) (by omega) (by omega) ?_; intro v9 w9 ho9 hk9 ha9)))
        have hs9 := hk9.size
        have HN9 := Lib.hid (Nw.row (hnw.nw hn3) hrow hk9)
        have HLW9 : Hid (LW w2.heap.size w9 (L.take (k + 1)) (lb ++ [(s.a.at_ (some ⟨gS, 0, none⟩) (s.a.sn + 2) (some ⟨gD, 0, none⟩) (s.a.dn + 2))]) v9) := Lib.hid (by
          rw [HTK.out]
          exact HLW.out.snoc (by omega) hn3 hD hS hww.out hk9 (by rw [hlb.out]; exact ho9))
        clear hD hS hrow ho9 hk9 ha9
        go_wp2_with fail
        go_roundw
        case rel => exact ⟨k + 1, _, by omega, by go_num, HLW9, HN9.out⟩
        case measure => simp [intOf]; omega
    · have hkN : k = N := by omega
      subst hkN
      obtain ⟨w3, rfl⟩ : ∃ w3 : World, w3 = wr := ⟨_, rfl⟩
      have hL : L.take k = L := List.take_of_length_le (by rw [HLN.out]; exact Nat.le_refl _)
      rw [hL] at HLW
      have hlbk : lb.length = k := by rw [HLW.out.rws.len, HLN.out]
      have hrow := HLW.out.rws.row
      rw [hlbk] at hrow
      obtain ⟨A10, c10, rfl, hc10, _⟩ := own_read hrow
      have HLB := Lib.hid hlbk
      have hs3 := hnw.size
      have h1 : ¬ (k : Int) < (k : Int) := by omega
      clear hL hlbk hrow
      go_wp2_with fail
      clear h1
      refine (rframe_any A10 k c10 _ L lb w3 (TabOk.nw HT.out (hn02.nw hnw)) HLW.out.rws.rowR (by omega) (fun s hs => by have := HB.out s hs; omega)).mono ?_
      intro e w4 h
      obtain ⟨v12, rfl, ho12, hn4⟩ := HFR.out _ _ _ h
      clear h
      obtain ⟨A12, c12, rfl, hc12, _⟩ := own_read ho12
      have HO12 := Lib.hid ho12
      have hs4 := hn4.size
      clear ho12
      go_wp2_with fail
      refine (rframe_any A10 k c10 _ L lb w4 (TabOk.nw HT.out ((hn02.nw hnw).nw hn4)) (HLW.out.nw hn4).rws.rowR (by omega) (fun s hs => by have := HB.out s hs; omega)).mono ?_
      intro e w5 h
      obtain ⟨v14, rfl, ho14, hn5⟩ := HFR.out _ _ _ h
      clear h
      obtain ⟨A14, c14, rfl, hc14, _⟩ := own_read ho14
      have HO14 := Lib.hid ho14
      have hs5 := hn5.size
      have hn25 := (hnw.nw hn4).nw hn5
      clear ho14
      go_wp2_with fail
      refine (sameb_any _ _ fl _ _ _ _ F w5 (own_slice (own_nw HO12.out hn5)) (own_slice (own_nw HO8.out hn25)) (by omega)).mono ?_
      rintro e w6 ⟨rfl, hn6⟩
      go_wp2_with fail
      refine (sameb_any _ _ fl _ _ _ _ F w6 (own_slice (own_nw HO14.out hn6)) (own_slice (own_nw HO8.out (hn25.nw hn6))) (by omega)).mono ?_
      rintro e w7 ⟨rfl, hn7⟩
      have hn57 := hn6.nw hn7
      have hn37 := (hn4.nw hn5).nw hn57
      go_wp2_with fail
      refine (sameall_rows c10 c ((HLW.out.nw hn37).rws.rowR) (HR.out.nw ((hn02.nw hnw).nw hn37)) (by omega) (fun s hs => by have := HB.out s hs; omega)).mono ?_
      rintro e w8 ⟨rfl, hn8⟩
      have hn38 := hn37.nw hn8
      have hn58 := hn57.nw hn8
      have hs8 := hn58.size
      have HLW8 := Lib.hid (HLW.out.rws.nw hn38)
      have HMK0 := Lib.hid (HLW.out.mks.nw hn38)
      have hRO := Lib.hid (own_slice HLW8.out.rowN)
      have HXL : Hid (∀ g, XL lb g → (w2.heap.size ≤ g ∧ g < w3.heap.size) ∧ (Value.slice A10 k c10).ownBlock ≠ some g) := Lib.hid fun g hg => HLW8.out.sof hg
      have hO8 := Lib.hid (own_nw HO8.out (hnw.nw hn38))
      have hO12 := Lib.hid (own_nw HO12.out (hn5.nw hn58))
      have hO14 := Lib.hid (own_nw HO14.out hn58)
      have HV8 : Hid (∀ g, (Value.slice A8 fl c8).ownBlock = some g → g < w2.heap.size) := Lib.hid fun g hg => own_lt HO8.out hg
      have HV12 : Hid (∀ g, (Value.slice A12 fl c12).ownBlock = some g → w3.heap.size ≤ g ∧ g < w4.heap.size) := Lib.hid fun g hg => ⟨own_ge HO12.out hg, own_lt HO12.out hg⟩
      have HV14 : Hid (∀ g, (Value.slice A14 fl c14).ownBlock = some g → w4.heap.size ≤ g) := Lib.hid fun g hg => own_ge HO14.out hg
      have HSD := Lib.hid HLW8.out.sD
      have HSS := Lib.hid HLW8.out.sS
      have HLEN : Hid (lb.length = L.length) := Lib.hid HLW8.out.len
      have hn08 := (hn02.nw hnw).nw hn38
      clear hn4 hn5 hn6 hn7 hn8 hn57 hn37 hn58 hn38 hn25 HO8 HO12 HO14 HLW HLW8
      go_wp2_with fail
      clear hqq
      go_loopw [19] (fun i wr => ∃ j : Nat, j ≤ k ∧ i = .int .i64 j ∧ Hid (Mk j wr L lb) ∧ Kp (XL lb) w8 wr) (fun i _ => k - (intOf i).toNat)
      case atStart => exact ⟨0, by omega, rfl, HMK0, Kp.refl _ _⟩
      case round =>
        obtain ⟨j, hj, rfl, HMK, hkp⟩ := hrel
        by_cases hlt : j < k
        · as_aux_lemma =>
            obtain ⟨ad, rfl, _, hcs, _, _⟩ := (hRO.out.kp hkp (fun g hg hx => (HXL.out g hx).2 hg)).rec_ (i := j) (by rw [HLB.out]; exact hlt)
            obtain ⟨s, hLk⟩ : ∃ s, L[j]? = some s := ⟨_, List.getElem?_eq_getElem (by rw [HLN.out]; exact hlt)⟩
            have hak : lb[j]? = some (lb[j]'(by rw [HLB.out]; exact hlt)) := List.getElem?_eq_getElem _
            generalize (lb[j]'(by rw [HLB.out]; exact hlt)) = a at *
            obtain ⟨gS, gD, bS, bD, rfl, hD, hS⟩ := HMK.out j s a (Nat.le_refl _) hLk hak
            have hbb := HB.out s (List.mem_of_getElem? hLk)
            have hww := HWF.out s (List.mem_of_getElem? hLk)
            have HKE := Lib.hid (kept_any s.a gS gD bD bS s.sp s.dt wr hD hS (by omega) (by omega))
            have HSP := Lib.hid (fun W (h : Nw wr W) => spoil_any (s.a.at_ (some ⟨gS, 0, none⟩) (s.a.sn + 2) (some ⟨gD, 0, none⟩) (s.a.dn + 2)) 9 bD bS s.sp s.dt W (cutB hww.2 (own_nw hD h)) (cutS hww.1 (own_nw hS h)) (by show s.a.sn ≤ _; omega) (by show s.a.dn ≤ _; omega) (by omega) (by omega))
            have HCS := Lib.hid hcs
            have HAK := Lib.hid hak
            have h0 : (0 : Int) ≤ (j : Int) := by omega
            have h1 : (j : Int) < (k : Int) := by omega
            clear hcs hak hD hS hLk hww
            go_wp2_with ((with_reducible refine opAt 95 ?_); (refine wpList_load_at rfl 36 _ rfl (ad.add (j * 11)) rfl (s.a.at_ (some ⟨gS, 0, none⟩) (s.a.sn + 2) (some ⟨gD, 0, none⟩) (s.a.dn + 2)).cells _ HCS.out Tryd.underlying36 rfl (by kernel_rfl) ?_))
            refine HKE.out.mono ?_
            rintro e w9 ⟨rfl, hn9⟩
            have HCS9 := Lib.hid (cells_nw HCS.out hn9)
            go_wp2_with ((with_reducible refine opAt 102 ?_); (refine wpList_load_at rfl 36 _ rfl (ad.add (j * 11)) rfl (s.a.at_ (some ⟨gS, 0, none⟩) (s.a.sn + 2) (some ⟨gD, 0, none⟩) (s.a.dn + 2)).cells _ HCS9.out Tryd.underlying36 rfl (by kernel_rfl) ?_))
            refine (HSP.out w9 hn9).mono ?_
            rintro e w10 ⟨rfl, _, _, hk10⟩
            have HMK10 := Lib.hid ((HMK.out.nw hn9).step HLEN.out HSD.out HSS.out HAK.out hk10)
            have HK10 := Lib.hid ((hkp.nw hn9).trans hk10 fun i hi e => XL.of HAK.out e)
            clear hk10
            go_wp2_with fail
            go_roundw
            case rel => exact ⟨j + 1, by omega, by go_num, HMK10, HK10.out⟩
            case measure => simp [intOf]; omega
        · have hjk : j = k := by omega
          subst hjk
          have h1 : ¬ (j : Int) < (j : Int) := by omega
          obtain ⟨w9, rfl⟩ : ∃ w9 : World, w9 = wr := ⟨_, rfl⟩
          have hs9 := hkp.size
          have hp8 := Lib.hid (own_kp hO8.out hkp fun g hg hx => by have := (HXL.out g hx).1; have := HV8.out g hg; omega)
          have hp12 : Hid (∃ ys, w9.ownsRow w3.heap.size 5 1 (.slice A12 fl c12) fl ys) := Lib.hid ⟨_, own_kp hO12.out hkp fun g hg hx => by have := (HXL.out g hx).1; have := HV12.out g hg; omega⟩
          have hp14 := Lib.hid (own_kp hO14.out hkp fun g hg hx => by have := (HXL.out g hx).1; have := HV14.out g hg; omega)
          have hn9 : Nw w w9 := hn08.trans hkp fun i hi hx => by have := (HXL.out i hx).1; omega
          clear hkp HMK hO8 hO12 hO14
          go_wp2_with fail
          clear h1
          go_loopw [21] (fun i wr => ∃ k : Nat, k ≤ fl ∧ i = .int .i64 k ∧ Hid (∃ ys, wr.ownsRow w3.heap.size 5 1 (.slice A12 fl c12) fl ys) ∧ Kp (fun g => (Value.slice A12 fl c12).ownBlock = some g) w9 wr) (fun i _ => fl - (intOf i).toNat)
          case atStart => exact ⟨0, by omega, rfl, hp12, Kp.refl _ _⟩
          case round =>
            obtain ⟨k, hk, rfl, how, hkp⟩ := hrel
            by_cases hlt : k < fl
            · as_aux_lemma =>
                obtain ⟨ys, hy⟩ := how.out
                obtain ⟨g, rfl⟩ := own_some hy (by omega)
                obtain ⟨⟨vv, hcl⟩, hfz, HST⟩ := own_st hy (.int .u8 201) hlt
                have h1 : (k : Int) < (fl : Int) := by omega
                have h0 : (0 : Int) ≤ (k : Int) := by omega
                clear hy how
                go_wp2_with fail
                go_roundw
                case rel => exact ⟨k + 1, by omega, by go_num, Lib.hid HST.out.1, hkp.trans HST.out.2 fun _ _ e => by rw [e]; rfl⟩
                case measure => simp [intOf]; omega
            · have h1 : ¬ (k : Int) < (fl : Int) := by omega
              obtain ⟨w10, rfl⟩ : ∃ w10 : World, w10 = wr := ⟨_, rfl⟩
              have hs10 := hkp.size
              have hr8 := Lib.hid (own_kp hp8.out hkp fun g hg hx => by have := HV12.out g hx; have := HV8.out g hg; omega)
              have hr14 := Lib.hid (own_kp hp14.out hkp fun g hg hx => by have := HV12.out g hx; have := HV14.out g hg; omega)
              have hn10 : Nw w w10 := hn9.trans hkp fun i hi hx => by have := HV12.out i hx; omega
              clear hkp how hp8 hp12 hp14
              go_wp2_with fail
              clear h1
              refine (sameb_any _ _ fl _ _ _ _ F w10 (own_slice hr14.out) (own_slice hr8.out) (by omega)).mono ?_
              rintro e w11 ⟨rfl, hn11⟩
              have hob0 := own_nw hr14.out hn11
              have hn9 := hn10.nw hn11
              have hs11 := hn11.size
              clear hn10 hn11
              by_cases hcut : 0 ≤ cut ∧ cut < (fl : Int)
              · as_aux_lemma =>
                  obtain ⟨hc0, hc1⟩ := hcut
                  obtain ⟨cn, rfl⟩ := Int.eq_ofNat_of_zero_le hc0
                  obtain ⟨g, rfl⟩ := own_some hob0 (by omega)
                  have hob := own_take hob0 (k := cn) (by omega) (by simp)
                  rw [Nat.mul_one, ← bys_take] at hob
                  have hcc : (cn : Int) ≤ (c14 : Int) := by omega
                  have hd1 : decide ((cn : Int) < (fl : Int)) = true := by simpa using hc1
                  have hd2 : decide (cn < fl) = true := by simp; omega
                  have hflc : (fl : Int) ≤ (c14 : Int) := by omega
                  clear hob0
                  go_upto_region 29 with (fail)
                  have hrbw := HRB.out.nw hn9
                  go_upto_region 30 with (at_builtin; (refine wpList_appv _ rfl (.tmp 127) (.tmp 128) 22 5 rfl eb w4.heap.size _ _ _ hob rfl _ Bb nb cb _ hrbw rfl (bys_one _) (by simp only [maxLen]; omega) (by omega) (by omega) ?_; intro v30 w30 ho30 hk30 ha30))
                  have hn30 := hn9.trans hk30 fun i hi e => by have := own_ge hob e; omega
                  rw [← bys_app] at ho30
                  obtain ⟨A30, c30, rfl, hc30, _⟩ := own_read ho30
                  have HO30 := Lib.hid ho30
                  clear ho30 hk30 ha30 hob hrbw
                  go_wp2_with fail
                  refine (scans_any A30 _ c30 _ _ w30 (TabOk.nw HT.out hn30) (own_slice HO30.out) hc30 (by omega) (fun g hg => own_lt HO30.out hg)).mono ?_
                  rintro e w31 ⟨rfl, hn31⟩
                  go_wp2_with fail
                  go_ret
                  exact ⟨rfl, hn30.nw hn31⟩
              · by_cases hc0 : 0 ≤ cut
                · as_aux_lemma =>
                    have hc1 : ¬ cut < (fl : Int) := by omega
                    have hob := hob0
                    have hd1 : decide (cut < (fl : Int)) = false := by simpa using hc1
                    clear hob0 hcut
                    go_upto_region 29 with (fail)
                    have hrbw := HRB.out.nw hn9
                    go_upto_region 30 with (at_builtin; (refine wpList_appv _ rfl (.tmp 127) (.tmp 128) 22 5 rfl eb w4.heap.size _ _ _ hob rfl _ Bb nb cb _ hrbw rfl (bys_one _) (by simp only [maxLen]; omega) (by omega) (by omega) ?_; intro v30 w30 ho30 hk30 ha30))
                    have hn30 := hn9.trans hk30 fun i hi e => by have := own_ge hob e; omega
                    rw [← bys_app] at ho30
                    obtain ⟨A30, c30, rfl, hc30, _⟩ := own_read ho30
                    have HO30 := Lib.hid ho30
                    clear ho30 hk30 ha30 hob hrbw
                    go_wp2_with fail
                    refine (scans_any A30 _ c30 _ _ w30 (TabOk.nw HT.out hn30) (own_slice HO30.out) hc30 (by omega) (fun g hg => own_lt HO30.out hg)).mono ?_
                    rintro e w31 ⟨rfl, hn31⟩
                    go_wp2_with fail
                    go_ret
                    exact ⟨rfl, hn30.nw hn31⟩
                · as_aux_lemma =>
                    have hob := hob0
                    have hd1 : decide (0 ≤ cut) = false := by simpa using hc0
                    clear hob0 hcut
                    go_upto_region 29 with (fail)
                    have hrbw := HRB.out.nw hn9
                    go_upto_region 30 with (at_builtin; (refine wpList_appv _ rfl (.tmp 127) (.tmp 128) 22 5 rfl eb w4.heap.size _ _ _ hob rfl _ Bb nb cb _ hrbw rfl (bys_one _) (by simp only [maxLen]; omega) (by omega) (by omega) ?_; intro v30 w30 ho30 hk30 ha30))
                    have hn30 := hn9.trans hk30 fun i hi e => by have := own_ge hob e; omega
                    rw [← bys_app] at ho30
                    obtain ⟨A30, c30, rfl, hc30, _⟩ := own_read ho30
                    have HO30 := Lib.hid ho30
                    clear ho30 hk30 ha30 hob hrbw
                    go_wp2_with fail
                    refine (scans_any A30 _ c30 _ _ w30 (TabOk.nw HT.out hn30) (own_slice HO30.out) hc30 (by omega) (fun g hg => own_lt HO30.out hg)).mono ?_
                    rintro e w31 ⟨rfl, hn31⟩
                    go_wp2_with fail
                    go_ret
                    exact ⟨rfl, hn30.nw hn31⟩

end Go.Proofs.YtjgnapjhlhdgfaaDoor
