/- Frames: the law RecordTorn walked. -/
import Derived.Test.YtjgnapjhlhdgfaaDoorEh
set_option linter.unusedVariables false
set_option linter.unusedSimpArgs false
namespace Go.Proofs.YtjgnapjhlhdgfaaDoor
open Go.RowKit

set_option maxRecDepth 100000 in
set_option maxHeartbeats 51200000 in
theorem law_RecordTorn (A : Option Addr) (N c : Nat) (L : List RSt) (la : List Rc) (cut at_ to_ : Int) (Bb : Option Addr) (nb cb : Nat) (xs : List UInt8) (w : World) (hT : TabOk w)
    (hr : RowR w (fun _ => True) A N L la) (hN : N ≤ 1048576) (hwt : wt L ≤ 1048576) (hNc : N ≤ c) (h0c : -9223372036854775808 ≤ cut) (h1c : cut ≤ 9223372036854775807) (h0a : -9223372036854775808 ≤ at_) (h1a : at_ ≤ 9223372036854775807) (hto0 : 0 ≤ to_) (hto1 : to_ < 256)
    (hrb : Rd w (fun _ => True) 1 Bb nb (bys xs)) (hnb : nb ≤ cb) (hcb : cb ≤ 1048576) :
    Calls Tryd.prog 6 #[.slice A N c, .int .i64 cut, .int .i64 at_, .int .u8 to_, .slice Bb nb cb] w fun e w' => e = .returned (.bool true) ∧ Nw w w' := by
  have HR := Lib.hid hr.inb
  have HRB := Lib.hid (hrb.inb (by omega))
  have HT := Lib.hid hT
  have HLN := Lib.hid hr.lenN
  have HLA : Hid (la.length = N) := Lib.hid (by rw [hr.len, hr.lenN])
  have HWF := Lib.hid hr.wf
  have HB : Hid (∀ s ∈ L, s.a.sn ≤ 1048576 ∧ s.a.dn ≤ 1048576) := Lib.hid fun s hs => by have := wt_mem hs; omega
  have HFW : Hid (okL L = true → (frs L).length ≤ 200000000) := Lib.hid fun h => by have := frs_wt h hr.wf; rw [hr.lenN] at this; omega
  have eb := Tryd.elU8
  have ei := Tryd.elInt
  clear hr hrb hT
  go_enter Tryd.func6, Tryd.ntmps6
  go_wp2_with fail
  refine (awake_any _).mono ?_
  rintro e w1 ⟨rfl, hn1⟩
  have h00 := Lib.hid (show okL (L.take 0) = true from rfl)
  have h01 : Hid (w1.ownsRow w1.heap.size 5 1 (.slice none 0 0) (en L 0) (bys (frs (L.take 0)))) := Lib.hid (World.ownsRow_nil _ _ _ _)
  have h02 : Hid (w1.ownsRow w1.heap.size 3 1 (.slice none 0 0) 0 (ens L 0)) := Lib.hid (World.ownsRow_nil _ _ _ _)
  have hs1 := hn1.size
  go_wp2_with fail
  go_loopw [12, 13, 14] (fun v e i wr => ∃ k : Nat, k ≤ N ∧ i = .int .i64 k ∧ Hid (okL (L.take k) = true) ∧ Hid (wr.ownsRow w1.heap.size 5 1 v (en L k) (bys (frs (L.take k)))) ∧ Hid (wr.ownsRow w1.heap.size 3 1 e k (ens L k)) ∧ Nw w1 wr) (fun _ _ i _ => N - (intOf i).toNat)
  case atStart => exact ⟨0, by omega, rfl, h00, h01, h02, Kp.refl _ _⟩
  case round =>
    obtain ⟨k, hk, rfl, HOKL, HOW, HEN, hnw⟩ := hrel
    by_cases hlt : k < N
    · as_aux_lemma =>
        have hRw := HR.out.nw (hn1.nw hnw)
        obtain ⟨ad, rfl, _, hcs, _, _⟩ := hRw.row.rec_ (i := k) (by rw [HLA.out]; exact hlt)
        obtain ⟨s, hLk⟩ : ∃ s, L[k]? = some s := ⟨_, List.getElem?_eq_getElem (by rw [HLN.out]; exact hlt)⟩
        have hak : la[k]? = some (la[k]'(by rw [HLA.out]; exact hlt)) := List.getElem?_eq_getElem _
        generalize (la[k]'(by rw [HLA.out]; exact hlt)) = a at *
        have hone := hRw.one hLk hak
        obtain ⟨S, sc, D, dc, rfl, hrS, hrD⟩ := hRw.each k s a hLk hak
        have hbb := HB.out s (List.mem_of_getElem? hLk)
        have HONE := Lib.hid (fun W (h : Nw wr W) => rframe_any _ 1 (c - k) _ [s] [s.a.at_ S sc D dc] W (TabOk.nw HT.out ((hn1.nw hnw).nw h)) (hone.nw h) (by omega) (fun t ht => by rw [List.mem_singleton.1 ht]; omega))
        have hRI := fun W (h : Nw wr W) => rright_any (s.a.at_ S sc D dc) _ s.sp W (hrS.nw h) (by show s.a.sn ≤ _; omega) (by show s.a.dn ≤ _; omega)
        have HRI0 : Hid (∀ W, Nw wr W → okR s.a s.sp = true → Calls Tryd.prog 19 #[.agg (s.a.at_ S sc D dc).cells] W fun e w' => e = .returned (.int .i64 0) ∧ Nw W w') := Lib.hid fun W h hok => by
          have := hRI W h
          rw [okR_at, hok] at this
          exact this
        have HRI1 : Hid (∀ W, Nw wr W → okR s.a s.sp = false → Calls Tryd.prog 19 #[.agg (s.a.at_ S sc D dc).cells] W fun e w' => e = .returned (.int .i64 60) ∧ Nw W w') := Lib.hid fun W h hok => by
          have := hRI W h
          rw [okR_at, hok] at this
          exact this
        have HSUC := Lib.hid (frs_succ hLk)
        have HESUC := Lib.hid (en_succ hLk)
        have HOKS := Lib.hid (okL_snoc hLk HOKL.out)
        have h0 : (0 : Int) ≤ (k : Int) := by omega
        have h1 : (k : Int) < (N : Int) := by omega
        have HCSW : Hid (∀ W, Nw wr W → ∀ (j : Nat) (v : Value), (s.a.at_ S sc D dc).cells[j]? = some v → W.cell? ((ad.add (k * 11)).add j) = some v) := Lib.hid (by
          have e : (la[k]'(by rw [HLA.out]; exact hlt)) = s.a.at_ S sc D dc := (List.getElem?_eq_some_iff.1 hak).2
          exact fun W hW => cells_nw hcs hW)
        have hbnd : en L k ≤ 1310800000000 := frs_take_len HOKL.out HWF.out HLN.out (by omega)
        have hpl : okR s.a s.sp = true → (fr1 s).length ≤ 131080 := fun h => by
          have hw := HWF.out s (List.mem_of_getElem? hLk)
          rw [fr1_len]
          have := prR_small h hw.1 hw.2
          omega
        clear hcs hrS hrD hRw hRI hLk hak hone
        go_wp2_with ((with_reducible refine opAt 46 ?_); (refine wpList_cutS 11 rfl (.tmp 42) (.tmp 43) (.tmp 45) 28 36 rfl Tryd.underlying28 (by kernel_rfl) (some ad) N c k (k + 1) _ _ rfl rfl rfl rfl (by omega) (by omega) (by omega) (by omega) ?_; rw [show k + 1 - k = 1 from by omega]))
        have HNR := Lib.hid (show Nw wr wr from Kp.refl _ _)
        refine (HONE.out wr HNR.out).mono ?_
        intro e w2 h
        by_cases hok : okR s.a s.sp = true
        · obtain ⟨v15, rfl, ho15, hn2⟩ := frpost_one_ok h hok
          have hpl := hpl hok
          obtain ⟨m, hm⟩ : ∃ m, (fr1 s).length = m := ⟨_, rfl⟩
          rw [hm] at ho15 hpl
          have HM := Lib.hid hm
          obtain ⟨PA, pc, rfl, hpc, _⟩ := own_read ho15
          have HCS := Lib.hid (HCSW.out w2 hn2)
          have HRI := Lib.hid (fun W h => HRI0.out W h hok)
          have HOKN := Lib.hid (HOKS.out hok)
          clear h hm hok
          go_wp2_with ((with_reducible refine opAt 53 ?_); (refine wpList_load_at rfl 36 _ rfl (ad.add (k * 11)) rfl (s.a.at_ S sc D dc).cells _ HCS.out Tryd.underlying36 rfl (by kernel_rfl) ?_))
          refine (HRI.out w2 hn2).mono ?_
          rintro e w3 ⟨rfl, hn3⟩
          have hn23 := hn2.nw hn3
          have how := own_nw HOW.out hn23
          have hen := own_nw HEN.out hn23
          have hrp := own_slice (own_nw ho15 hn3)
          have hs3 := hn23.size
          have hs0 := hnw.size
          obtain ⟨xl, hxl⟩ : ∃ xl, en L k = xl := ⟨_, rfl⟩
          rw [hxl] at how hbnd
          have HXL := Lib.hid hxl
          clear hxl
          go_upto_region 6 with (first
            | (at_builtin; (refine wpList_appv _ rfl (.tmp 61) (.tmp 62) 22 5 rfl eb w1.heap.size _ _ _ how rfl _ PA m pc _ hrp rfl (bys_one _) (by simp only [maxLen]; omega) (by omega) (by omega) ?_; intro v5 w5 ho5 hk5 ha5; have hen5 := own_kp hen hk5 (fun g hg => own_ty hen how (by decide) hg); have hs5 := hk5.size; have ho5' := ho5; obtain ⟨A5, c5, rfl, _, _⟩ := own_read ho5'))
            | (at_builtin; (refine wpList_app1 w5 _ _ rfl (.tmp 64) (.tmp 67) 43 3 rfl ei w1.heap.size _ _ _ hen5 rfl 1 1 rfl rfl (by simp [Value.oneCell']) (by simp only [maxLen]; omega) (by omega) (by omega) ?_; intro v6 w6 ho6 hk6 ha6)))
          have HO6 : Hid (w6.ownsRow w1.heap.size 5 1 (.slice A5 (xl + m) c5) (en L (k + 1)) (bys (frs (L.take (k + 1))))) := Lib.hid (by
            rw [HSUC.out, HESUC.out, HXL.out, HM.out, bys_app]
            exact own_kp ho5 hk6 (fun g hg => own_ty ho5 hen5 (by decide) hg))
          have HE6 : Hid (w6.ownsRow w1.heap.size 3 1 v6 (k + 1) (ens L (k + 1))) := Lib.hid (by
            rw [ens_succ, HESUC.out, HXL.out, HM.out]
            exact ho6)
          have HN6 := Lib.hid (Nw.row (Nw.row (hnw.nw hn23) how hk5) hen5 hk6)
          clear ho5 ho6 hk5 ha5 hk6 ha6 how hen hen5 hrp ho15 ho5'
          go_wp2_with fail
          go_roundw
          case rel => exact ⟨k + 1, by omega, by go_num, HOKN, HO6, HE6, HN6.out⟩
          case measure => simp [intOf]; omega
        · have hokf : okR s.a s.sp = false := by simpa using hok
          obtain ⟨v15, rfl, hn2⟩ := frpost_one_bad h hokf
          have HCS := Lib.hid (HCSW.out w2 hn2)
          have HRI := Lib.hid (fun W h => HRI1.out W h hokf)
          have h60 : ((60 : Int) != 0) = true := by decide
          clear h hok hokf hpl
          go_wp2_with ((with_reducible refine opAt 53 ?_); (refine wpList_load_at rfl 36 _ rfl (ad.add (k * 11)) rfl (s.a.at_ S sc D dc).cells _ HCS.out Tryd.underlying36 rfl (by kernel_rfl) ?_))
          refine (HRI.out w2 hn2).mono ?_
          rintro e w3 ⟨rfl, hn3⟩
          have HFIN := Lib.hid (((hn1.nw hnw).nw hn2).nw hn3)
          clear hn2 hn3 hnw
          go_wp2_with fail
          go_ret
          exact ⟨rfl, HFIN.out⟩
    · have hkN : k = N := by omega
      subst hkN
      have hL : L.take k = L := List.take_of_length_le (by rw [HLN.out]; exact Nat.le_refl _)
      have henk : en L k = (frs L).length := by rw [← HLN.out, en_all]
      rw [hL] at HOKL HOW
      rw [henk] at HOW
      obtain ⟨T, hTT⟩ : ∃ T, (frs L).length = T := ⟨_, rfl⟩
      have hTb := HFW.out HOKL.out
      rw [hTT] at HOW henk hTb
      have HTT := Lib.hid hTT
      have HENN := Lib.hid henk
      have how := HOW.out
      have hen := HEN.out
      obtain ⟨A12, c12, rfl, hc12, _⟩ := own_read how
      obtain ⟨A13, c13, rfl, hc13, _⟩ := own_read hen
      have HTW : Hid (TornW w w1.heap.size L k T A12 c12 A13 c13 wr) := Lib.hid ⟨hn1.nw hnw, how, hen⟩
      have h1 : ¬ (k : Int) < (k : Int) := by omega
      obtain ⟨N, hNk⟩ : ∃ N : Nat, N = k := ⟨_, rfl⟩
      subst hNk
      obtain ⟨w3, rfl⟩ : ∃ w3 : World, w3 = wr := ⟨_, rfl⟩
      clear hL how hen hTT henk HOW HEN
      go_wp2_with fail
      clear h1
      refine (rframe_any A N c _ L la w3 (TabOk.nw HT.out HTW.out.n) (HR.out.nw HTW.out.n) (by omega) (fun s hs => by have := HB.out s hs; omega)).mono ?_
      intro e w4 h
      obtain ⟨v18, rfl, ho18, hn4⟩ := frpost_all h HOKL.out
      rw [HTT.out] at ho18
      obtain ⟨A18, c18, rfl, hc18, _⟩ := own_read ho18
      have HO18 := Lib.hid ho18
      clear h ho18
      go_wp2_with fail
      refine (sameb_any _ _ T _ _ _ _ (frs L) w4 (own_slice HO18.out) (own_slice (HTW.out.nw hn4).whole) (by omega)).mono ?_
      rintro e w5 ⟨rfl, hn5⟩
      have HT5 := Lib.hid ((HTW.out.nw hn4).nw hn5)
      clear hn4 hn5 HO18
      go_wp2_with fail
      refine (scan_any A12 T c12 _ (frs L) w5 (TabOk.nw HT.out HT5.out.n) (own_slice HT5.out.whole) hc12 (by omega) (fun g hg => own_lt HT5.out.whole hg)).mono ?_
      intro e w6 h
      obtain ⟨la21, A21, c21, rfl, hc21, hR21, hn6⟩ := scpostN_of (N := N) (scn_all HOKL.out HWF.out) (by rw [List.length_map, HLN.out]) h
      clear h
      rw [HTT.out]
      have HR21 := Lib.hid hR21
      clear hR21
      go_wp2_with fail
      refine (sameall_rows c21 c HR21.out.rowR (HR.out.nw (HT5.out.nw hn6).n).nz (by omega) (nz_small (fun s hs => by have := HB.out s hs; omega))).mono ?_
      rintro e w7 ⟨rfl, hn7⟩
      have HTB := Lib.hid ((HT5.out.nw hn6).nw hn7)
      have hMM : ((T : Int) != (T : Int)) = false := by simp
      obtain ⟨w20, rfl⟩ : ∃ w20 : World, w20 = w7 := ⟨_, rfl⟩
      clear hn6 hn7 HR21 HT5 HTW hnw
      go_upto_region 21 with (fail)
      clear hMM
      by_cases hT0 : T = 0
      · as_aux_lemma =>
          have hd : ((T : Int) == 0) = true := by rw [beq_iff_eq]; omega
          have HFIN := Lib.hid HTB.out.n
          go_wp2_with fail
          go_ret
          exact ⟨rfl, HFIN.out⟩
      · have hd1 : ((T : Int) == 0) = false := by rw [beq_eq_false_iff_ne]; omega
        by_cases hcu : cut < 0
        · as_aux_lemma =>
            have hd2 : decide (cut < 0) = true := by simpa using hcu
            have HFIN := Lib.hid HTB.out.n
            go_wp2_with fail
            go_ret
            exact ⟨rfl, HFIN.out⟩
        · have hd2 : decide (cut < 0) = false := by simpa using hcu
          by_cases hau : at_ < 0
          · as_aux_lemma =>
              have hd3 : decide (at_ < 0) = true := by simpa using hau
              have HFIN := Lib.hid HTB.out.n
              go_wp2_with fail
              go_ret
              exact ⟨rfl, HFIN.out⟩
          · have hd3 : decide (at_ < 0) = false := by simpa using hau
            have hTp : 0 < T := by omega
            obtain ⟨g, rfl⟩ := own_some HTB.out.whole hTp
            obtain ⟨cn, hcn⟩ : ∃ cn : Nat, cut % ((T : Int) + 1) = (cn : Int) := ⟨(cut % ((T : Int) + 1)).toNat, by
              have := Int.emod_nonneg cut (b := (T : Int) + 1) (by omega)
              omega⟩
            have hcnT : cn ≤ T := by
              have := Int.emod_lt_of_pos cut (b := (T : Int) + 1) (by omega)
              omega
            obtain ⟨pn, hpe⟩ : ∃ pn : Nat, at_ % (T : Int) = (pn : Int) := ⟨(at_ % (T : Int)).toNat, by
              have := Int.emod_nonneg at_ (b := (T : Int)) (by omega)
              omega⟩
            have hpn : pn < T := by
              have := Int.emod_lt_of_pos at_ (b := (T : Int)) (by omega)
              omega
            have hcc : (cn : Int) ≤ (c12 : Int) := by omega
            have hTi : (0 : Int) < (T : Int) := by omega
            have hc0 : (0 : Int) ≤ cut := by omega
            have ha0 : (0 : Int) ≤ at_ := by omega
            clear hcu hau hT0
            go_wp2_with fail
            clear hd1 hd2 hd3 hcn
            go_loop [25] (fun q => ∃ k : Nat, k ≤ N ∧ q = .int .i64 k ∧ en L k ≤ cn) (fun q => N - (intOf q).toNat)
            case atStart => exact ⟨0, by omega, rfl, Nat.zero_le _⟩
            case round =>
              obtain ⟨k, hk, rfl, hen⟩ := hrel
              by_cases hkN : k < N
              · obtain ⟨ade, hade, hce⟩ := (own_slice HTB.out.ends).end_ hkN
                have hk0 : (0 : Int) ≤ (k : Int) := by omega
                have hk1 : (k : Int) < (N : Int) := by omega
                have hk2 : decide (k < N) = true := by simpa using hkN
                by_cases hle : en L (k + 1) ≤ cn
                · as_aux_lemma =>
                    subst hade
                    have hled : ((en L (k + 1) : Nat) : Int) ≤ (cn : Int) := by omega
                    go_wp2_with fail
                    go_round
                    case rel => exact ⟨k + 1, by omega, by go_num, hle⟩
                    case measure => simp [intOf]; omega
                · as_aux_lemma =>
                    have hled : ¬ ((en L (k + 1) : Nat) : Int) ≤ (cn : Int) := by omega
                    have hled2 : decide (((en L (k + 1) : Nat) : Int) ≤ (cn : Int)) = false := by simpa using hled
                    have hend : k = N ∨ cn < en L (k + 1) := .inr (by omega)
                    subst hade
                    go_upto_region 27 with (fail)
                    clear hce hled hled2 hk0 hk1 hk2
                    have HSC := Lib.hid (scn_cut HOKL.out HWF.out (k := k) (c := cn) (by rw [HLN.out]; exact hk) hen (by rw [HLN.out]; exact hend))
                    have HKN : Hid (((L.take k).map nz).length = k) := Lib.hid (by rw [List.length_map, List.length_take, HLN.out]; omega)
                    have hbeg := own_take HTB.out.whole (k := cn) (by omega) (by simp)
                    rw [Nat.mul_one, ← bys_take] at hbeg
                    have HBEG := Lib.hid hbeg
                    clear hbeg hend
                    go_wp2_with fail
                    refine (scan_any (some ⟨g, 0, none⟩) cn c12 _ _ w20 (TabOk.nw HT.out HTB.out.n) (own_slice HBEG.out) (by omega) (by omega) (fun g' hg' => own_lt HBEG.out hg')).mono ?_
                    intro e w21 h
                    obtain ⟨la26, A26, c26, rfl, hc26, hR26, hn21⟩ := scpostN_of HSC.out HKN.out h
                    clear h
                    have HR26 := Lib.hid hR26
                    have hkc : (k : Int) ≤ (c : Int) := by omega
                    clear hR26
                    go_wp2_with fail
                    refine (sameall_rows c26 c HR26.out.rowR ((HR.out.nw (HTB.out.n.nw hn21)).take (k := k) hk).nz (by omega) (nz_small (fun s hs => by have := HB.out s (List.mem_of_mem_take hs); omega))).mono ?_
                    rintro e w22 ⟨rfl, hn22⟩
                    have HTK := Lib.hid ((HTB.out.nw hn21).nw hn22)
                    go_wp2_with fail
                    refine (start_any _ N c13 _ L k w22 (own_slice HTK.out.ends) (by omega) (by omega)).mono ?_
                    rintro e w23 ⟨rfl, rfl⟩
                    have hee : (((en L k : Nat) : Int) != ((en L k : Nat) : Int)) = false := by simp
                    have hN0 : 0 < N := by
                      have h1 := HENN.out
                      by_cases h0 : N = 0
                      · rw [h0, en_zero] at h1
                        omega
                      · omega
                    have hnT : (T : Int) ≠ 0 := by omega
                    clear hn21 hn22
                    go_wp2_with fail
                    clear hee hnT
                    go_loop [30] (fun q => ∃ j : Nat, j < N ∧ q = .int .i64 j ∧ en L j ≤ pn) (fun q => N - (intOf q).toNat)
                    case atStart => exact ⟨0, hN0, rfl, Nat.zero_le _⟩
                    case round =>
                      obtain ⟨j, hj, rfl, hje⟩ := hrel
                      obtain ⟨ade2, hade2, hce⟩ := (own_slice HTK.out.ends).end_ hj
                      try simp only [Option.some.injEq] at hade2
                      subst hade2
                      have hj0 : (0 : Int) ≤ (j : Int) := by omega
                      have hj1 : (j : Int) < (N : Int) := by omega
                      by_cases hle : en L (j + 1) ≤ pn
                      · have hjn : j + 1 < N := by
                          by_cases hq : j + 1 = N
                          · rw [hq, HENN.out] at hle
                            omega
                          · omega
                        have hled : ((en L (j + 1) : Nat) : Int) ≤ (pn : Int) := by omega
                        go_wp2_with fail
                        go_round
                        case rel => exact ⟨j + 1, hjn, by go_num, hle⟩
                        case measure => simp [intOf]; omega
                      · have hled : ¬ ((en L (j + 1) : Nat) : Int) ≤ (pn : Int) := by omega
                        have hj2 : pn < en L (j + 1) := by omega
                        as_aux_lemma =>
                          go_upto_region 35 with (fail)
                          clear hce hled
                          go_upto_region 36 with (fail)
                          have hTJ := HTK.out
                          have hnil : w22.ownsRow w22.heap.size 5 1 (.slice none 0 0) 0 (bys []) := World.ownsRow_nil _ _ _ _
                          have hrw := own_slice hTJ.whole
                          go_upto_region 37 with (at_builtin; (refine wpList_appv _ rfl (.tmp 169) (.tmp 170) 22 5 rfl eb w22.heap.size _ _ _ hnil rfl _ _ T c12 _ hrw rfl (bys_one _) (by simp only [maxLen]; omega) (by omega) (Nat.le_refl _) ?_; intro v31 w31 ho31 hk31 ha31))
                          have hn31 : Nw w22 w31 := hk31.mono fun i _ e => by simp [Value.ownBlock] at e
                          obtain ⟨A31, c31, rfl, hc31, _⟩ := own_read ho31
                          obtain ⟨g31, rfl⟩ := own_some ho31 (by omega)
                          have hg31 : w22.heap.size ≤ g31 := own_ge ho31 rfl
                          have hT31 := Lib.hid (hTJ.nw hn31)
                          clear hk31 ha31 hnil hrw hTJ
                          go_wp2_with fail
                          refine (start_any _ N c13 _ L j w31 (own_slice hT31.out.ends) (by omega) (by omega)).mono ?_
                          rintro e w32 ⟨rfl, rfl⟩
                          have hwcl := own_atn hT31.out.whole (bys_at (l := frs L) (k := pn) (by rw [HTT.out]; exact hpn))
                          obtain ⟨bb, hbb⟩ : ∃ bb, (frs L)[pn]'(by rw [HTT.out]; exact hpn) = bb := ⟨_, rfl⟩
                          rw [hbb] at hwcl
                          have HBB := Lib.hid hbb
                          have hp0 : (0 : Int) ≤ (pn : Int) := by omega
                          have hp1 : (pn : Int) < (T : Int) := by omega
                          clear hbb
                          by_cases h4 : en L j + 4 ≤ pn
                          · have hd4 : decide ((4 : Int) ≤ (pn : Int) - ((en L j : Nat) : Int)) = true := by simp; omega
                            have hi4 : (4 : Int) ≤ (pn : Int) - ((en L j : Nat) : Int) := by omega
                            by_cases hto : to_ = (bb.toNat : Int)
                            · subst hto
                              as_aux_lemma =>
                                have hne : ((bb.toNat : Int) != (bb.toNat : Int)) = false := by simp
                                have hnl := hn31
                                clear ho31
                                go_upto_region 43 with (fail)
                                clear hwcl hne hd4 hi4
                                obtain ⟨wl, rfl⟩ : ∃ wl : World, wl = w31 := ⟨_, rfl⟩
                                have HTW := HTK
                                have HTL := Lib.hid (HTW.out.nw hnl)
                                have hnilL : wl.ownsRow wl.heap.size 5 1 (.slice none 0 0) 0 (bys []) := World.ownsRow_nil _ _ _ _
                                have hrwL := own_slice HTL.out.whole
                                go_upto_region 45 with (at_builtin; (refine wpList_appv _ rfl (.tmp 209) (.tmp 210) 22 5 rfl eb wl.heap.size _ _ _ hnilL rfl _ _ T c12 _ hrwL rfl (bys_one _) (by simp only [maxLen]; omega) (by omega) (Nat.le_refl _) ?_; intro v41 w41 ho41 hk41 ha41))
                                have hn41 : Nw wl w41 := hk41.mono fun i _ e => by simp [Value.ownBlock] at e
                                have hrbL := HRB.out.nw ((HTL.out.n).nw hn41)
                                have hs41 := hn41.size
                                go_upto_region 46 with (at_builtin; (refine wpList_appv _ rfl (.tmp 212) (.tmp 213) 22 5 rfl eb wl.heap.size _ _ _ ho41 rfl _ Bb nb cb _ hrbL rfl (bys_one _) (by simp only [maxLen]; omega) (by omega) (by omega) ?_; intro v42 w42 ho42 hk42 ha42))
                                have hn42 : Nw wl w42 := Nw.row hn41 ho41 hk42
                                have ho42' : w42.ownsRow wl.heap.size 5 1 v42 (T + nb) (bys (frs L ++ xs)) := by
                                  rw [bys_app, show T + nb = 0 + T + nb from by omega]
                                  exact ho42
                                obtain ⟨A42, c42, rfl, hc42, _⟩ := own_read ho42'
                                have HO42 := Lib.hid ho42'
                                clear ho41 ho42 ho42' hk41 ha41 hk42 ha42 hnilL hrwL hrbL
                                obtain ⟨EX, hEX⟩ : ∃ EX, (scn xs).1 = EX := ⟨_, rfl⟩
                                obtain ⟨fx, hfx⟩ : ∃ fx, (scn xs).2 = fx := ⟨_, rfl⟩
                                have HSCL : Hid (scn (frs L ++ xs) = (L.map nz ++ EX, T + fx)) := Lib.hid (by rw [scn_frs xs HOKL.out HWF.out, hEX, hfx, HTT.out])
                                have HSCN : Hid ((L.map nz ++ EX).length = N + EX.length) := Lib.hid (by rw [List.length_append, List.length_map, HLN.out])
                                clear hEX hfx
                                go_wp2_with fail
                                refine (scan_any A42 (T + nb) c42 _ (frs L ++ xs) w42 (TabOk.nw HT.out (HTL.out.n.nw hn42)) (own_slice HO42.out) hc42 (by omega) (fun g hg => own_lt HO42.out hg)).mono ?_
                                intro e w43 h
                                obtain ⟨la43, A43, c43, rfl, hc43, hR43, hn43⟩ := scpostN_of HSCL.out HSCN.out h
                                clear h
                                have HR43 := Lib.hid hR43
                                have hdl1 : ¬ ((N : Int) + (EX.length : Int) < (N : Int)) := by omega
                                have hdl2 : ¬ ((T : Int) + (fx : Int) < (T : Int)) := by omega
                                have hdl3 : decide (N + EX.length < N) = false := by simp
                                have hdl4 : decide ((N : Int) + (EX.length : Int) < (N : Int)) = false := by simp; omega
                                have hdl5 : decide ((T : Int) + (fx : Int) < (T : Int)) = false := by simp; omega
                                have hN43 : (N : Int) ≤ (c43 : Int) := by omega
                                clear hR43
                                go_wp2_with fail
                                have hrt := HR43.out.rowT (k := N) (by omega)
                                rw [app_take (by rw [List.length_map, HLN.out])] at hrt
                                refine (sameall_rows c43 c hrt (HR.out.nw ((HTL.out.n.nw hn42).nw hn43)).nz (by omega) (nz_small (fun s hs => by have := HB.out s hs; omega))).mono ?_
                                rintro e w44 ⟨rfl, hn44⟩
                                go_wp2_with fail
                                go_ret
                                exact ⟨rfl, ((HTL.out.n.nw hn42).nw hn43).nw hn44⟩
                            · as_aux_lemma =>
                                have hne : (to_ != (bb.toNat : Int)) = true := by rw [bne_iff_ne]; exact hto
                                have ho31' : w31.ownsRow w22.heap.size 5 1 (.slice (some ⟨g31, 0, none⟩) (0 + T) c31) (0 + T) (bys [] ++ bys (frs L)) := ho31
                                obtain ⟨⟨vv, hcl⟩, hfz, HST⟩ := turnB (k := pn) (a := to_) ho31' HTT.out hpn hto0 hto1
                                have hxx : UInt8.ofNat to_.toNat ≠ (frs L)[pn]'(by rw [HTT.out]; exact hpn) := by
                                  rw [HBB.out]
                                  intro q
                                  apply hto
                                  rw [← q, UInt8.toNat_ofNat']
                                  omega
                                have HSCT := Lib.hid (scn_turn HOKL.out HWF.out (j := j) (p := pn) (by rw [HLN.out]; exact hj) h4 hj2 (by rw [HTT.out]; exact hpn) hxx)
                                have HSTN : Hid (((L.take j).map nz).length = j) := Lib.hid (by rw [List.length_map, List.length_take, HLN.out]; omega)
                                clear ho31 ho31' hto hxx
                                go_upto_region 39 with (fail)
                                have how := HST.out.1
                                have hks := HST.out.2
                                rw [Nat.zero_add] at how
                                have hn3s : Nw w22 (w31.setCell ⟨g31, pn, none⟩ (.int .u8 to_)) := hn31.trans hks fun i hi e => by omega
                                generalize w31.setCell ⟨g31, pn, none⟩ (.int .u8 to_) = w33 at *
                                have HOW := Lib.hid how
                                have hT33 := Lib.hid (HTK.out.nw hn3s)
                                clear hcl hfz HST how hks hne hd4 hi4 hwcl
                                go_wp2_with fail
                                refine (scan_any (some ⟨g31, 0, none⟩) T c31 _ _ w33 (TabOk.nw HT.out hT33.out.n) (own_slice HOW.out) (by omega) (by omega) (fun g hg => own_lt HOW.out hg)).mono ?_
                                intro e w34 h
                                obtain ⟨la34, A34, c34, rfl, hc34, hR34, hn34⟩ := scpostN_of HSCT.out HSTN.out h
                                clear h
                                have HR34 := Lib.hid hR34
                                have hjc : (j : Int) ≤ (c : Int) := by omega
                                clear hR34
                                go_wp2_with fail
                                refine (sameall_rows c34 c HR34.out.rowR ((HR.out.nw (hT33.out.n.nw hn34)).take (k := j) (by omega)).nz (by omega) (nz_small (fun s hs => by have := HB.out s (List.mem_of_mem_take hs); omega))).mono ?_
                                rintro e w35 ⟨rfl, hn35⟩
                                go_wp2_with fail
                                refine (start_any _ N c13 _ L j w35 (own_slice ((hT33.out.nw hn34).nw hn35).ends) (by omega) (by omega)).mono ?_
                                rintro e w36 ⟨rfl, rfl⟩
                                have hee : (((en L j : Nat) : Int) != ((en L j : Nat) : Int)) = false := by simp
                                have hnl : Nw w22 w35 := (hn3s.nw hn34).nw hn35
                                go_upto_region 43 with (fail)
                                clear hee hjc
                                obtain ⟨wl, rfl⟩ : ∃ wl : World, wl = w35 := ⟨_, rfl⟩
                                have HTW := HTK
                                have HTL := Lib.hid (HTW.out.nw hnl)
                                have hnilL : wl.ownsRow wl.heap.size 5 1 (.slice none 0 0) 0 (bys []) := World.ownsRow_nil _ _ _ _
                                have hrwL := own_slice HTL.out.whole
                                go_upto_region 45 with (at_builtin; (refine wpList_appv _ rfl (.tmp 209) (.tmp 210) 22 5 rfl eb wl.heap.size _ _ _ hnilL rfl _ _ T c12 _ hrwL rfl (bys_one _) (by simp only [maxLen]; omega) (by omega) (Nat.le_refl _) ?_; intro v41 w41 ho41 hk41 ha41))
                                have hn41 : Nw wl w41 := hk41.mono fun i _ e => by simp [Value.ownBlock] at e
                                have hrbL := HRB.out.nw ((HTL.out.n).nw hn41)
                                have hs41 := hn41.size
                                go_upto_region 46 with (at_builtin; (refine wpList_appv _ rfl (.tmp 212) (.tmp 213) 22 5 rfl eb wl.heap.size _ _ _ ho41 rfl _ Bb nb cb _ hrbL rfl (bys_one _) (by simp only [maxLen]; omega) (by omega) (by omega) ?_; intro v42 w42 ho42 hk42 ha42))
                                have hn42 : Nw wl w42 := Nw.row hn41 ho41 hk42
                                have ho42' : w42.ownsRow wl.heap.size 5 1 v42 (T + nb) (bys (frs L ++ xs)) := by
                                  rw [bys_app, show T + nb = 0 + T + nb from by omega]
                                  exact ho42
                                obtain ⟨A42, c42, rfl, hc42, _⟩ := own_read ho42'
                                have HO42 := Lib.hid ho42'
                                clear ho41 ho42 ho42' hk41 ha41 hk42 ha42 hnilL hrwL hrbL
                                obtain ⟨EX, hEX⟩ : ∃ EX, (scn xs).1 = EX := ⟨_, rfl⟩
                                obtain ⟨fx, hfx⟩ : ∃ fx, (scn xs).2 = fx := ⟨_, rfl⟩
                                have HSCL : Hid (scn (frs L ++ xs) = (L.map nz ++ EX, T + fx)) := Lib.hid (by rw [scn_frs xs HOKL.out HWF.out, hEX, hfx, HTT.out])
                                have HSCN : Hid ((L.map nz ++ EX).length = N + EX.length) := Lib.hid (by rw [List.length_append, List.length_map, HLN.out])
                                clear hEX hfx
                                go_wp2_with fail
                                refine (scan_any A42 (T + nb) c42 _ (frs L ++ xs) w42 (TabOk.nw HT.out (HTL.out.n.nw hn42)) (own_slice HO42.out) hc42 (by omega) (fun g hg => own_lt HO42.out hg)).mono ?_
                                intro e w43 h
                                obtain ⟨la43, A43, c43, rfl, hc43, hR43, hn43⟩ := scpostN_of HSCL.out HSCN.out h
                                clear h
                                have HR43 := Lib.hid hR43
                                have hdl1 : ¬ ((N : Int) + (EX.length : Int) < (N : Int)) := by omega
                                have hdl2 : ¬ ((T : Int) + (fx : Int) < (T : Int)) := by omega
                                have hdl3 : decide (N + EX.length < N) = false := by simp
                                have hdl4 : decide ((N : Int) + (EX.length : Int) < (N : Int)) = false := by simp; omega
                                have hdl5 : decide ((T : Int) + (fx : Int) < (T : Int)) = false := by simp; omega
                                have hN43 : (N : Int) ≤ (c43 : Int) := by omega
                                clear hR43
                                go_wp2_with fail
                                have hrt := HR43.out.rowT (k := N) (by omega)
                                rw [app_take (by rw [List.length_map, HLN.out])] at hrt
                                refine (sameall_rows c43 c hrt (HR.out.nw ((HTL.out.n.nw hn42).nw hn43)).nz (by omega) (nz_small (fun s hs => by have := HB.out s hs; omega))).mono ?_
                                rintro e w44 ⟨rfl, hn44⟩
                                go_wp2_with fail
                                go_ret
                                exact ⟨rfl, ((HTL.out.n.nw hn42).nw hn43).nw hn44⟩
                          · as_aux_lemma =>
                              have hd4 : decide ((4 : Int) ≤ (pn : Int) - ((en L j : Nat) : Int)) = false := by simp; omega
                              have hi4 : ¬ (4 : Int) ≤ (pn : Int) - ((en L j : Nat) : Int) := by omega
                              have hnl := hn31
                              clear ho31 hwcl
                              go_upto_region 43 with (fail)
                              clear hd4 hi4
                              obtain ⟨wl, rfl⟩ : ∃ wl : World, wl = w31 := ⟨_, rfl⟩
                              have HTW := HTK
                              have HTL := Lib.hid (HTW.out.nw hnl)
                              have hnilL : wl.ownsRow wl.heap.size 5 1 (.slice none 0 0) 0 (bys []) := World.ownsRow_nil _ _ _ _
                              have hrwL := own_slice HTL.out.whole
                              go_upto_region 45 with (at_builtin; (refine wpList_appv _ rfl (.tmp 209) (.tmp 210) 22 5 rfl eb wl.heap.size _ _ _ hnilL rfl _ _ T c12 _ hrwL rfl (bys_one _) (by simp only [maxLen]; omega) (by omega) (Nat.le_refl _) ?_; intro v41 w41 ho41 hk41 ha41))
                              have hn41 : Nw wl w41 := hk41.mono fun i _ e => by simp [Value.ownBlock] at e
                              have hrbL := HRB.out.nw ((HTL.out.n).nw hn41)
                              have hs41 := hn41.size
                              go_upto_region 46 with (at_builtin; (refine wpList_appv _ rfl (.tmp 212) (.tmp 213) 22 5 rfl eb wl.heap.size _ _ _ ho41 rfl _ Bb nb cb _ hrbL rfl (bys_one _) (by simp only [maxLen]; omega) (by omega) (by omega) ?_; intro v42 w42 ho42 hk42 ha42))
                              have hn42 : Nw wl w42 := Nw.row hn41 ho41 hk42
                              have ho42' : w42.ownsRow wl.heap.size 5 1 v42 (T + nb) (bys (frs L ++ xs)) := by
                                rw [bys_app, show T + nb = 0 + T + nb from by omega]
                                exact ho42
                              obtain ⟨A42, c42, rfl, hc42, _⟩ := own_read ho42'
                              have HO42 := Lib.hid ho42'
                              clear ho41 ho42 ho42' hk41 ha41 hk42 ha42 hnilL hrwL hrbL
                              obtain ⟨EX, hEX⟩ : ∃ EX, (scn xs).1 = EX := ⟨_, rfl⟩
                              obtain ⟨fx, hfx⟩ : ∃ fx, (scn xs).2 = fx := ⟨_, rfl⟩
                              have HSCL : Hid (scn (frs L ++ xs) = (L.map nz ++ EX, T + fx)) := Lib.hid (by rw [scn_frs xs HOKL.out HWF.out, hEX, hfx, HTT.out])
                              have HSCN : Hid ((L.map nz ++ EX).length = N + EX.length) := Lib.hid (by rw [List.length_append, List.length_map, HLN.out])
                              clear hEX hfx
                              go_wp2_with fail
                              refine (scan_any A42 (T + nb) c42 _ (frs L ++ xs) w42 (TabOk.nw HT.out (HTL.out.n.nw hn42)) (own_slice HO42.out) hc42 (by omega) (fun g hg => own_lt HO42.out hg)).mono ?_
                              intro e w43 h
                              obtain ⟨la43, A43, c43, rfl, hc43, hR43, hn43⟩ := scpostN_of HSCL.out HSCN.out h
                              clear h
                              have HR43 := Lib.hid hR43
                              have hdl1 : ¬ ((N : Int) + (EX.length : Int) < (N : Int)) := by omega
                              have hdl2 : ¬ ((T : Int) + (fx : Int) < (T : Int)) := by omega
                              have hdl3 : decide (N + EX.length < N) = false := by simp
                              have hdl4 : decide ((N : Int) + (EX.length : Int) < (N : Int)) = false := by simp; omega
                              have hdl5 : decide ((T : Int) + (fx : Int) < (T : Int)) = false := by simp; omega
                              have hN43 : (N : Int) ≤ (c43 : Int) := by omega
                              clear hR43
                              go_wp2_with fail
                              have hrt := HR43.out.rowT (k := N) (by omega)
                              rw [app_take (by rw [List.length_map, HLN.out])] at hrt
                              refine (sameall_rows c43 c hrt (HR.out.nw ((HTL.out.n.nw hn42).nw hn43)).nz (by omega) (nz_small (fun s hs => by have := HB.out s hs; omega))).mono ?_
                              rintro e w44 ⟨rfl, hn44⟩
                              go_wp2_with fail
                              go_ret
                              exact ⟨rfl, ((HTL.out.n.nw hn42).nw hn43).nw hn44⟩
              · as_aux_lemma =>
                  have hk2 : decide (k < N) = false := by simpa using hkN
                  have hk3 : ¬ (k : Int) < (N : Int) := by omega
                  have hend : k = N ∨ cn < en L (k + 1) := .inl (by omega)
                  go_upto_region 27 with (fail)
                  clear hk2 hk3
                  have HSC := Lib.hid (scn_cut HOKL.out HWF.out (k := k) (c := cn) (by rw [HLN.out]; exact hk) hen (by rw [HLN.out]; exact hend))
                  have HKN : Hid (((L.take k).map nz).length = k) := Lib.hid (by rw [List.length_map, List.length_take, HLN.out]; omega)
                  have hbeg := own_take HTB.out.whole (k := cn) (by omega) (by simp)
                  rw [Nat.mul_one, ← bys_take] at hbeg
                  have HBEG := Lib.hid hbeg
                  clear hbeg hend
                  go_wp2_with fail
                  refine (scan_any (some ⟨g, 0, none⟩) cn c12 _ _ w20 (TabOk.nw HT.out HTB.out.n) (own_slice HBEG.out) (by omega) (by omega) (fun g' hg' => own_lt HBEG.out hg')).mono ?_
                  intro e w21 h
                  obtain ⟨la26, A26, c26, rfl, hc26, hR26, hn21⟩ := scpostN_of HSC.out HKN.out h
                  clear h
                  have HR26 := Lib.hid hR26
                  have hkc : (k : Int) ≤ (c : Int) := by omega
                  clear hR26
                  go_wp2_with fail
                  refine (sameall_rows c26 c HR26.out.rowR ((HR.out.nw (HTB.out.n.nw hn21)).take (k := k) hk).nz (by omega) (nz_small (fun s hs => by have := HB.out s (List.mem_of_mem_take hs); omega))).mono ?_
                  rintro e w22 ⟨rfl, hn22⟩
                  have HTK := Lib.hid ((HTB.out.nw hn21).nw hn22)
                  go_wp2_with fail
                  refine (start_any _ N c13 _ L k w22 (own_slice HTK.out.ends) (by omega) (by omega)).mono ?_
                  rintro e w23 ⟨rfl, rfl⟩
                  have hee : (((en L k : Nat) : Int) != ((en L k : Nat) : Int)) = false := by simp
                  have hN0 : 0 < N := by
                    have h1 := HENN.out
                    by_cases h0 : N = 0
                    · rw [h0, en_zero] at h1
                      omega
                    · omega
                  have hnT : (T : Int) ≠ 0 := by omega
                  clear hn21 hn22
                  go_wp2_with fail
                  clear hee hnT
                  go_loop [30] (fun q => ∃ j : Nat, j < N ∧ q = .int .i64 j ∧ en L j ≤ pn) (fun q => N - (intOf q).toNat)
                  case atStart => exact ⟨0, hN0, rfl, Nat.zero_le _⟩
                  case round =>
                    obtain ⟨j, hj, rfl, hje⟩ := hrel
                    obtain ⟨ade2, hade2, hce⟩ := (own_slice HTK.out.ends).end_ hj
                    try simp only [Option.some.injEq] at hade2
                    subst hade2
                    have hj0 : (0 : Int) ≤ (j : Int) := by omega
                    have hj1 : (j : Int) < (N : Int) := by omega
                    by_cases hle : en L (j + 1) ≤ pn
                    · have hjn : j + 1 < N := by
                        by_cases hq : j + 1 = N
                        · rw [hq, HENN.out] at hle
                          omega
                        · omega
                      have hled : ((en L (j + 1) : Nat) : Int) ≤ (pn : Int) := by omega
                      go_wp2_with fail
                      go_round
                      case rel => exact ⟨j + 1, hjn, by go_num, hle⟩
                      case measure => simp [intOf]; omega
                    · have hled : ¬ ((en L (j + 1) : Nat) : Int) ≤ (pn : Int) := by omega
                      have hj2 : pn < en L (j + 1) := by omega
                      as_aux_lemma =>
                        go_upto_region 35 with (fail)
                        clear hce hled
                        go_upto_region 36 with (fail)
                        have hTJ := HTK.out
                        have hnil : w22.ownsRow w22.heap.size 5 1 (.slice none 0 0) 0 (bys []) := World.ownsRow_nil _ _ _ _
                        have hrw := own_slice hTJ.whole
                        go_upto_region 37 with (at_builtin; (refine wpList_appv _ rfl (.tmp 169) (.tmp 170) 22 5 rfl eb w22.heap.size _ _ _ hnil rfl _ _ T c12 _ hrw rfl (bys_one _) (by simp only [maxLen]; omega) (by omega) (Nat.le_refl _) ?_; intro v31 w31 ho31 hk31 ha31))
                        have hn31 : Nw w22 w31 := hk31.mono fun i _ e => by simp [Value.ownBlock] at e
                        obtain ⟨A31, c31, rfl, hc31, _⟩ := own_read ho31
                        obtain ⟨g31, rfl⟩ := own_some ho31 (by omega)
                        have hg31 : w22.heap.size ≤ g31 := own_ge ho31 rfl
                        have hT31 := Lib.hid (hTJ.nw hn31)
                        clear hk31 ha31 hnil hrw hTJ
                        go_wp2_with fail
                        refine (start_any _ N c13 _ L j w31 (own_slice hT31.out.ends) (by omega) (by omega)).mono ?_
                        rintro e w32 ⟨rfl, rfl⟩
                        have hwcl := own_atn hT31.out.whole (bys_at (l := frs L) (k := pn) (by rw [HTT.out]; exact hpn))
                        obtain ⟨bb, hbb⟩ : ∃ bb, (frs L)[pn]'(by rw [HTT.out]; exact hpn) = bb := ⟨_, rfl⟩
                        rw [hbb] at hwcl
                        have HBB := Lib.hid hbb
                        have hp0 : (0 : Int) ≤ (pn : Int) := by omega
                        have hp1 : (pn : Int) < (T : Int) := by omega
                        clear hbb
                        by_cases h4 : en L j + 4 ≤ pn
                        · have hd4 : decide ((4 : Int) ≤ (pn : Int) - ((en L j : Nat) : Int)) = true := by simp; omega
                          have hi4 : (4 : Int) ≤ (pn : Int) - ((en L j : Nat) : Int) := by omega
                          by_cases hto : to_ = (bb.toNat : Int)
                          · subst hto
                            as_aux_lemma =>
                              have hne : ((bb.toNat : Int) != (bb.toNat : Int)) = false := by simp
                              have hnl := hn31
                              clear ho31
                              go_upto_region 43 with (fail)
                              clear hwcl hne hd4 hi4
                              obtain ⟨wl, rfl⟩ : ∃ wl : World, wl = w31 := ⟨_, rfl⟩
                              have HTW := HTK
                              have HTL := Lib.hid (HTW.out.nw hnl)
                              have hnilL : wl.ownsRow wl.heap.size 5 1 (.slice none 0 0) 0 (bys []) := World.ownsRow_nil _ _ _ _
                              have hrwL := own_slice HTL.out.whole
                              go_upto_region 45 with (at_builtin; (refine wpList_appv _ rfl (.tmp 209) (.tmp 210) 22 5 rfl eb wl.heap.size _ _ _ hnilL rfl _ _ T c12 _ hrwL rfl (bys_one _) (by simp only [maxLen]; omega) (by omega) (Nat.le_refl _) ?_; intro v41 w41 ho41 hk41 ha41))
                              have hn41 : Nw wl w41 := hk41.mono fun i _ e => by simp [Value.ownBlock] at e
                              have hrbL := HRB.out.nw ((HTL.out.n).nw hn41)
                              have hs41 := hn41.size
                              go_upto_region 46 with (at_builtin; (refine wpList_appv _ rfl (.tmp 212) (.tmp 213) 22 5 rfl eb wl.heap.size _ _ _ ho41 rfl _ Bb nb cb _ hrbL rfl (bys_one _) (by simp only [maxLen]; omega) (by omega) (by omega) ?_; intro v42 w42 ho42 hk42 ha42))
                              have hn42 : Nw wl w42 := Nw.row hn41 ho41 hk42
                              have ho42' : w42.ownsRow wl.heap.size 5 1 v42 (T + nb) (bys (frs L ++ xs)) := by
                                rw [bys_app, show T + nb = 0 + T + nb from by omega]
                                exact ho42
                              obtain ⟨A42, c42, rfl, hc42, _⟩ := own_read ho42'
                              have HO42 := Lib.hid ho42'
                              clear ho41 ho42 ho42' hk41 ha41 hk42 ha42 hnilL hrwL hrbL
                              obtain ⟨EX, hEX⟩ : ∃ EX, (scn xs).1 = EX := ⟨_, rfl⟩
                              obtain ⟨fx, hfx⟩ : ∃ fx, (scn xs).2 = fx := ⟨_, rfl⟩
                              have HSCL : Hid (scn (frs L ++ xs) = (L.map nz ++ EX, T + fx)) := Lib.hid (by rw [scn_frs xs HOKL.out HWF.out, hEX, hfx, HTT.out])
                              have HSCN : Hid ((L.map nz ++ EX).length = N + EX.length) := Lib.hid (by rw [List.length_append, List.length_map, HLN.out])
                              clear hEX hfx
                              go_wp2_with fail
                              refine (scan_any A42 (T + nb) c42 _ (frs L ++ xs) w42 (TabOk.nw HT.out (HTL.out.n.nw hn42)) (own_slice HO42.out) hc42 (by omega) (fun g hg => own_lt HO42.out hg)).mono ?_
                              intro e w43 h
                              obtain ⟨la43, A43, c43, rfl, hc43, hR43, hn43⟩ := scpostN_of HSCL.out HSCN.out h
                              clear h
                              have HR43 := Lib.hid hR43
                              have hdl1 : ¬ ((N : Int) + (EX.length : Int) < (N : Int)) := by omega
                              have hdl2 : ¬ ((T : Int) + (fx : Int) < (T : Int)) := by omega
                              have hdl3 : decide (N + EX.length < N) = false := by simp
                              have hdl4 : decide ((N : Int) + (EX.length : Int) < (N : Int)) = false := by simp; omega
                              have hdl5 : decide ((T : Int) + (fx : Int) < (T : Int)) = false := by simp; omega
                              have hN43 : (N : Int) ≤ (c43 : Int) := by omega
                              clear hR43
                              go_wp2_with fail
                              have hrt := HR43.out.rowT (k := N) (by omega)
                              rw [app_take (by rw [List.length_map, HLN.out])] at hrt
                              refine (sameall_rows c43 c hrt (HR.out.nw ((HTL.out.n.nw hn42).nw hn43)).nz (by omega) (nz_small (fun s hs => by have := HB.out s hs; omega))).mono ?_
                              rintro e w44 ⟨rfl, hn44⟩
                              go_wp2_with fail
                              go_ret
                              exact ⟨rfl, ((HTL.out.n.nw hn42).nw hn43).nw hn44⟩
                          · as_aux_lemma =>
                              have hne : (to_ != (bb.toNat : Int)) = true := by rw [bne_iff_ne]; exact hto
                              have ho31' : w31.ownsRow w22.heap.size 5 1 (.slice (some ⟨g31, 0, none⟩) (0 + T) c31) (0 + T) (bys [] ++ bys (frs L)) := ho31
                              obtain ⟨⟨vv, hcl⟩, hfz, HST⟩ := turnB (k := pn) (a := to_) ho31' HTT.out hpn hto0 hto1
                              have hxx : UInt8.ofNat to_.toNat ≠ (frs L)[pn]'(by rw [HTT.out]; exact hpn) := by
                                rw [HBB.out]
                                intro q
                                apply hto
                                rw [← q, UInt8.toNat_ofNat']
                                omega
                              have HSCT := Lib.hid (scn_turn HOKL.out HWF.out (j := j) (p := pn) (by rw [HLN.out]; exact hj) h4 hj2 (by rw [HTT.out]; exact hpn) hxx)
                              have HSTN : Hid (((L.take j).map nz).length = j) := Lib.hid (by rw [List.length_map, List.length_take, HLN.out]; omega)
                              clear ho31 ho31' hto hxx
                              go_upto_region 39 with (fail)
                              have how := HST.out.1
                              have hks := HST.out.2
                              rw [Nat.zero_add] at how
                              have hn3s : Nw w22 (w31.setCell ⟨g31, pn, none⟩ (.int .u8 to_)) := hn31.trans hks fun i hi e => by omega
                              generalize w31.setCell ⟨g31, pn, none⟩ (.int .u8 to_) = w33 at *
                              have HOW := Lib.hid how
                              have hT33 := Lib.hid (HTK.out.nw hn3s)
                              clear hcl hfz HST how hks hne hd4 hi4 hwcl
                              go_wp2_with fail
                              refine (scan_any (some ⟨g31, 0, none⟩) T c31 _ _ w33 (TabOk.nw HT.out hT33.out.n) (own_slice HOW.out) (by omega) (by omega) (fun g hg => own_lt HOW.out hg)).mono ?_
                              intro e w34 h
                              obtain ⟨la34, A34, c34, rfl, hc34, hR34, hn34⟩ := scpostN_of HSCT.out HSTN.out h
                              clear h
                              have HR34 := Lib.hid hR34
                              have hjc : (j : Int) ≤ (c : Int) := by omega
                              clear hR34
                              go_wp2_with fail
                              refine (sameall_rows c34 c HR34.out.rowR ((HR.out.nw (hT33.out.n.nw hn34)).take (k := j) (by omega)).nz (by omega) (nz_small (fun s hs => by have := HB.out s (List.mem_of_mem_take hs); omega))).mono ?_
                              rintro e w35 ⟨rfl, hn35⟩
                              go_wp2_with fail
                              refine (start_any _ N c13 _ L j w35 (own_slice ((hT33.out.nw hn34).nw hn35).ends) (by omega) (by omega)).mono ?_
                              rintro e w36 ⟨rfl, rfl⟩
                              have hee : (((en L j : Nat) : Int) != ((en L j : Nat) : Int)) = false := by simp
                              have hnl : Nw w22 w35 := (hn3s.nw hn34).nw hn35
                              go_upto_region 43 with (fail)
                              clear hee hjc
                              obtain ⟨wl, rfl⟩ : ∃ wl : World, wl = w35 := ⟨_, rfl⟩
                              have HTW := HTK
                              have HTL := Lib.hid (HTW.out.nw hnl)
                              have hnilL : wl.ownsRow wl.heap.size 5 1 (.slice none 0 0) 0 (bys []) := World.ownsRow_nil _ _ _ _
                              have hrwL := own_slice HTL.out.whole
                              go_upto_region 45 with (at_builtin; (refine wpList_appv _ rfl (.tmp 209) (.tmp 210) 22 5 rfl eb wl.heap.size _ _ _ hnilL rfl _ _ T c12 _ hrwL rfl (bys_one _) (by simp only [maxLen]; omega) (by omega) (Nat.le_refl _) ?_; intro v41 w41 ho41 hk41 ha41))
                              have hn41 : Nw wl w41 := hk41.mono fun i _ e => by simp [Value.ownBlock] at e
                              have hrbL := HRB.out.nw ((HTL.out.n).nw hn41)
                              have hs41 := hn41.size
                              go_upto_region 46 with (at_builtin; (refine wpList_appv _ rfl (.tmp 212) (.tmp 213) 22 5 rfl eb wl.heap.size _ _ _ ho41 rfl _ Bb nb cb _ hrbL rfl (bys_one _) (by simp only [maxLen]; omega) (by omega) (by omega) ?_; intro v42 w42 ho42 hk42 ha42))
                              have hn42 : Nw wl w42 := Nw.row hn41 ho41 hk42
                              have ho42' : w42.ownsRow wl.heap.size 5 1 v42 (T + nb) (bys (frs L ++ xs)) := by
                                rw [bys_app, show T + nb = 0 + T + nb from by omega]
                                exact ho42
                              obtain ⟨A42, c42, rfl, hc42, _⟩ := own_read ho42'
                              have HO42 := Lib.hid ho42'
                              clear ho41 ho42 ho42' hk41 ha41 hk42 ha42 hnilL hrwL hrbL
                              obtain ⟨EX, hEX⟩ : ∃ EX, (scn xs).1 = EX := ⟨_, rfl⟩
                              obtain ⟨fx, hfx⟩ : ∃ fx, (scn xs).2 = fx := ⟨_, rfl⟩
                              have HSCL : Hid (scn (frs L ++ xs) = (L.map nz ++ EX, T + fx)) := Lib.hid (by rw [scn_frs xs HOKL.out HWF.out, hEX, hfx, HTT.out])
                              have HSCN : Hid ((L.map nz ++ EX).length = N + EX.length) := Lib.hid (by rw [List.length_append, List.length_map, HLN.out])
                              clear hEX hfx
                              go_wp2_with fail
                              refine (scan_any A42 (T + nb) c42 _ (frs L ++ xs) w42 (TabOk.nw HT.out (HTL.out.n.nw hn42)) (own_slice HO42.out) hc42 (by omega) (fun g hg => own_lt HO42.out hg)).mono ?_
                              intro e w43 h
                              obtain ⟨la43, A43, c43, rfl, hc43, hR43, hn43⟩ := scpostN_of HSCL.out HSCN.out h
                              clear h
                              have HR43 := Lib.hid hR43
                              have hdl1 : ¬ ((N : Int) + (EX.length : Int) < (N : Int)) := by omega
                              have hdl2 : ¬ ((T : Int) + (fx : Int) < (T : Int)) := by omega
                              have hdl3 : decide (N + EX.length < N) = false := by simp
                              have hdl4 : decide ((N : Int) + (EX.length : Int) < (N : Int)) = false := by simp; omega
                              have hdl5 : decide ((T : Int) + (fx : Int) < (T : Int)) = false := by simp; omega
                              have hN43 : (N : Int) ≤ (c43 : Int) := by omega
                              clear hR43
                              go_wp2_with fail
                              have hrt := HR43.out.rowT (k := N) (by omega)
                              rw [app_take (by rw [List.length_map, HLN.out])] at hrt
                              refine (sameall_rows c43 c hrt (HR.out.nw ((HTL.out.n.nw hn42).nw hn43)).nz (by omega) (nz_small (fun s hs => by have := HB.out s hs; omega))).mono ?_
                              rintro e w44 ⟨rfl, hn44⟩
                              go_wp2_with fail
                              go_ret
                              exact ⟨rfl, ((HTL.out.n.nw hn42).nw hn43).nw hn44⟩
                        · as_aux_lemma =>
                            have hd4 : decide ((4 : Int) ≤ (pn : Int) - ((en L j : Nat) : Int)) = false := by simp; omega
                            have hi4 : ¬ (4 : Int) ≤ (pn : Int) - ((en L j : Nat) : Int) := by omega
                            have hnl := hn31
                            clear ho31 hwcl
                            go_upto_region 43 with (fail)
                            clear hd4 hi4
                            obtain ⟨wl, rfl⟩ : ∃ wl : World, wl = w31 := ⟨_, rfl⟩
                            have HTW := HTK
                            have HTL := Lib.hid (HTW.out.nw hnl)
                            have hnilL : wl.ownsRow wl.heap.size 5 1 (.slice none 0 0) 0 (bys []) := World.ownsRow_nil _ _ _ _
                            have hrwL := own_slice HTL.out.whole
                            go_upto_region 45 with (at_builtin; (refine wpList_appv _ rfl (.tmp 209) (.tmp 210) 22 5 rfl eb wl.heap.size _ _ _ hnilL rfl _ _ T c12 _ hrwL rfl (bys_one _) (by simp only [maxLen]; omega) (by omega) (Nat.le_refl _) ?_; intro v41 w41 ho41 hk41 ha41))
                            have hn41 : Nw wl w41 := hk41.mono fun i _ e => by simp [Value.ownBlock] at e
                            have hrbL := HRB.out.nw ((HTL.out.n).nw hn41)
                            have hs41 := hn41.size
                            go_upto_region 46 with (at_builtin; (refine wpList_appv _ rfl (.tmp 212) (.tmp 213) 22 5 rfl eb wl.heap.size _ _ _ ho41 rfl _ Bb nb cb _ hrbL rfl (bys_one _) (by simp only [maxLen]; omega) (by omega) (by omega) ?_; intro v42 w42 ho42 hk42 ha42))
                            have hn42 : Nw wl w42 := Nw.row hn41 ho41 hk42
                            have ho42' : w42.ownsRow wl.heap.size 5 1 v42 (T + nb) (bys (frs L ++ xs)) := by
                              rw [bys_app, show T + nb = 0 + T + nb from by omega]
                              exact ho42
                            obtain ⟨A42, c42, rfl, hc42, _⟩ := own_read ho42'
                            have HO42 := Lib.hid ho42'
                            clear ho41 ho42 ho42' hk41 ha41 hk42 ha42 hnilL hrwL hrbL
                            obtain ⟨EX, hEX⟩ : ∃ EX, (scn xs).1 = EX := ⟨_, rfl⟩
                            obtain ⟨fx, hfx⟩ : ∃ fx, (scn xs).2 = fx := ⟨_, rfl⟩
                            have HSCL : Hid (scn (frs L ++ xs) = (L.map nz ++ EX, T + fx)) := Lib.hid (by rw [scn_frs xs HOKL.out HWF.out, hEX, hfx, HTT.out])
                            have HSCN : Hid ((L.map nz ++ EX).length = N + EX.length) := Lib.hid (by rw [List.length_append, List.length_map, HLN.out])
                            clear hEX hfx
                            go_wp2_with fail
                            refine (scan_any A42 (T + nb) c42 _ (frs L ++ xs) w42 (TabOk.nw HT.out (HTL.out.n.nw hn42)) (own_slice HO42.out) hc42 (by omega) (fun g hg => own_lt HO42.out hg)).mono ?_
                            intro e w43 h
                            obtain ⟨la43, A43, c43, rfl, hc43, hR43, hn43⟩ := scpostN_of HSCL.out HSCN.out h
                            clear h
                            have HR43 := Lib.hid hR43
                            have hdl1 : ¬ ((N : Int) + (EX.length : Int) < (N : Int)) := by omega
                            have hdl2 : ¬ ((T : Int) + (fx : Int) < (T : Int)) := by omega
                            have hdl3 : decide (N + EX.length < N) = false := by simp
                            have hdl4 : decide ((N : Int) + (EX.length : Int) < (N : Int)) = false := by simp; omega
                            have hdl5 : decide ((T : Int) + (fx : Int) < (T : Int)) = false := by simp; omega
                            have hN43 : (N : Int) ≤ (c43 : Int) := by omega
                            clear hR43
                            go_wp2_with fail
                            have hrt := HR43.out.rowT (k := N) (by omega)
                            rw [app_take (by rw [List.length_map, HLN.out])] at hrt
                            refine (sameall_rows c43 c hrt (HR.out.nw ((HTL.out.n.nw hn42).nw hn43)).nz (by omega) (nz_small (fun s hs => by have := HB.out s hs; omega))).mono ?_
                            rintro e w44 ⟨rfl, hn44⟩
                            go_wp2_with fail
                            go_ret
                            exact ⟨rfl, ((HTL.out.n.nw hn42).nw hn43).nw hn44⟩

end Go.Proofs.YtjgnapjhlhdgfaaDoor
