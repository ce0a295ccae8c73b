/- Frames: the program's Scan. -/
import Derived.Test.YtjgnapjhlhdgfaaDoorDe
import Derived.Test.YtjgnapjhlhdgfaaDoorCc
set_option linter.unusedVariables false
set_option linter.unusedSimpArgs false
namespace Go.Proofs.YtjgnapjhlhdgfaaDoor
open Go.RowKit

set_option maxRecDepth 100000 in
set_option maxHeartbeats 12800000 in
theorem scan_any (A : Option Addr) (n c : Nat) (ok : Nat → Prop) (xs : List UInt8) (w : World) (hT : TabOk w) (hr : Rd w ok 1 A n (bys xs)) (hnc : n ≤ c) (hnb : n ≤ 9000000000) (hok : ∀ g, ok g → g < w.heap.size) :
    Calls Tryd.prog 20 #[.slice A n c] w (ScPost w xs) := by
  have hxl : xs.length = n := by have := hr.len; rwa [bys_len] at this
  have HR := Lib.hid hr
  have HXL := Lib.hid hxl
  have HOK := Lib.hid hok
  have HT := Lib.hid hT
  have eR := Tryd.elRc
  have HZ : Hid (∀ (a : Rc) (S : Option Addr) (sc : Nat) (D : Option Addr) (dc : Nat), (Tryd.prog.info? 36).map (·.size) = some (a.at_ S sc D dc).cells.size) := fun _ _ _ _ _ => by kernel_rfl
  have h0S := Lib.hid (ScInv.start xs)
  have h0R := Lib.hid (Rws.nil w.heap.size w.heap.size w)
  clear hr hxl hok hT
  go_enter Tryd.func20, Tryd.ntmps20
  go_wp2_with fail
  go_loopw [4, 5] (fun v q wr => ∃ (p : Nat) (pre : List RSt) (la : List Rc), p ≤ n ∧ q = .int .i64 p ∧ Hid (ScInv xs p pre) ∧ Hid (Rws w.heap.size wr.heap.size wr pre la v) ∧ Nw w wr ∧ la.length * 8 ≤ p) (fun _ q _ => n - (intOf q).toNat)
  case atStart => exact ⟨0, [], [], by omega, rfl, h0S, h0R, Kp.refl _ _, by simp⟩
  case round =>
    obtain ⟨p, pre, la, hp, rfl, HSI, HRW, hnw, hl8⟩ := hrel
    have hdl : Hid ((xs.drop p).length = n - p) := Lib.hid (by rw [List.length_drop, HXL.out])
    by_cases h8 : n - p < 8
    · have hg1 : decide (8 ≤ (n : Int) - (p : Int)) = false := by simp; omega
      have hg2 : ¬ (8 : Int) ≤ (n : Int) - (p : Int) := by omega
      as_aux_lemma =>
        have hst : Hid (sc1 (xs.drop p) = none) := Lib.hid (sc1_short (by rw [hdl.out]; omega))
        have HEND := Lib.hid (scend_of HSI hst HRW (Kp.refl _ _) hnw)
        clear hst
        go_wp2_with fail
        exact ⟨rfl, _, results_tmp2 (t := 2) (u := 3) rfl _ _ _, scpost_of HEND.out⟩
    · have hg1 : decide (8 ≤ (n : Int) - (p : Int)) = true := by simp; omega
      have hg2 : (8 : Int) ≤ (n : Int) - (p : Int) := by omega
      have hcut := (HR.out.nw hnw).cutA (c := c) (l := p) (h := p + 4) (by omega) (by omega) hnc
      rw [show p + 4 - p = 4 from by omega] at hcut
      have HV := Lib.hid (value_any _ 4 (c - p) _ _ _ hcut (by omega))
      rw [v4_take] at HV
      clear hcut
      go_wp2_with ((with_reducible refine opAt 19 ?_); (refine wpList_cutlh rfl (.tmp 15) (.tmp 16) (.tmp 18) 22 5 rfl Tryd.underlying22 (by kernel_rfl) A n c p (p + 4) _ _ rfl rfl rfl rfl (by omega) (by omega) (by omega) ?_; rw [show p + 4 - p = 4 from by omega]))
      refine HV.out.mono ?_
      rintro e w1 ⟨rfl, hn1⟩
      have hbV : v4 (xs.drop p) < 4294967296 := v4_lt _
      obtain ⟨V, hVe⟩ : ∃ V, v4 (xs.drop p) = V := ⟨_, rfl⟩
      rw [hVe] at hbV
      rw [hVe]
      have HVE := Lib.hid hVe
      clear hVe HV
      by_cases hV : V > 131072 ∨ V > n - p - 8
      · have hwhy : Hid (sc1 (xs.drop p) = none) := Lib.hid (sc1_big (by rw [hdl.out]; omega) (by rw [hdl.out, HVE.out]; exact hV))
        by_cases hV1 : V > 131072
        · have hd1 : decide (131072 < V) = true := by simpa using hV1
          have hd2 : (131072 : Int) < (V : Int) := by omega
          as_aux_lemma =>
            have hst : Hid (sc1 (xs.drop p) = none) := Lib.hid (hwhy.out)
            have HEND := Lib.hid (scend_of HSI hst HRW (hn1) hnw)
            clear hst
            go_wp2_with fail
            exact ⟨rfl, _, results_tmp2 (t := 2) (u := 3) rfl _ _ _, scpost_of HEND.out⟩
        · have hd1 : decide (131072 < V) = false := by simpa using hV1
          have hd2 : ¬ (131072 : Int) < (V : Int) := by omega
          have hd3 : (n : Int) - (p : Int) - 8 < (V : Int) := by omega
          have hd4 : decide ((n : Int) - (p : Int) - 8 < (V : Int)) = true := by simpa using hd3
          as_aux_lemma =>
            have hst : Hid (sc1 (xs.drop p) = none) := Lib.hid (hwhy.out)
            have HEND := Lib.hid (scend_of HSI hst HRW (hn1) hnw)
            clear hst
            go_wp2_with fail
            exact ⟨rfl, _, results_tmp2 (t := 2) (u := 3) rfl _ _ _, scpost_of HEND.out⟩
      · as_aux_lemma =>
          have hV1 : ¬ V > 131072 := by omega
          have hd1 : decide (131072 < V) = false := by simpa using hV1
          have hd2 : ¬ (131072 : Int) < (V : Int) := by omega
          have hd3 : ¬ (n : Int) - (p : Int) - 8 < (V : Int) := by omega
          have hd4 : decide ((n : Int) - (p : Int) - 8 < (V : Int)) = false := by simpa using hd3
          obtain ⟨ys, hys⟩ : ∃ ys, (xs.drop (p + 8)).take V = ys := ⟨_, rfl⟩
          have HCASE := Lib.hid (sc1_at hdl.out h8 hV HVE.out hys)
          have HY := (HR.out.nw (hnw.nw hn1)).cutA (c := c) (l := p + 8) (h := p + 8 + V) (by omega) (by omega) hnc
          rw [show p + 8 + V - (p + 8) = V from by omega, hys] at HY
          have HY := Lib.hid HY
          have hyl : Hid (ys.length = V) := Lib.hid (by have := HY.out.len; rwa [bys_len] at this)
          obtain ⟨A8, hA8⟩ : ∃ A8, cutA A c (p + 8) = A8 := ⟨_, rfl⟩
          rw [hA8] at HY
          have HA8 := Lib.hid hA8
          have hbS := Crc.sum_lt ys
          obtain ⟨S, hS⟩ : ∃ S, Crc.sum ys = S := ⟨_, rfl⟩
          have hbX := v4_lt (xs.drop (p + 4))
          obtain ⟨X, hX⟩ : ∃ X, v4 (xs.drop (p + 4)) = X := ⟨_, rfl⟩
          rw [hS] at hbS
          rw [hX] at hbX
          rw [hS, hX] at HCASE
          have HS := Lib.hid hS
          have HX := Lib.hid hX
          clear hys hA8 hS hX
          go_wp2_with ((with_reducible refine opAt 40 ?_); (refine wpList_cutlh rfl (.tmp 33) (.tmp 35) (.tmp 39) 22 5 rfl Tryd.underlying22 (by kernel_rfl) A n c (p + 8) (p + 8 + V) _ _ rfl rfl rfl (by omega) (by omega) (by omega) (by omega) ?_; rw [show p + 8 + V - (p + 8) = V from by omega, HA8.out]))
          have HSUM : Hid (∀ W, Nw w1 W → Calls Tryd.prog 10 #[.slice A8 V (c - (p + 8))] W fun e w' => e = .returned (.int .u32 (S : Int)) ∧ Nw W w') := Lib.hid fun W hW => (rsum_any A8 V _ _ ys W (TabOk.nw HT.out ((hnw.nw hn1).nw hW)) (HY.out.nw hW) (by omega)).mono fun e w' h => ⟨by rw [← HS.out]; exact h.1, by rw [← h.2]; exact Kp.refl _ _⟩
          have hcx := (HR.out.nw (hnw.nw hn1)).cutA (c := c) (l := p + 4) (h := p + 8) (by omega) (by omega) hnc
          rw [show p + 8 - (p + 4) = 4 from by omega] at hcx
          have HCX := Lib.hid hcx
          clear hcx
          have HVAL : Hid (∀ W, Nw w1 W → Calls Tryd.prog 35 #[.slice (cutA A c (p + 4)) 4 (c - (p + 4))] W fun e w' => e = .returned (.int .u32 (X : Int)) ∧ Nw W w') := Lib.hid fun W hW => (value_any _ 4 _ _ _ W (HCX.out.nw hW) (by omega)).mono fun e w' h => ⟨by rw [← HX.out, ← v4_take]; exact h.1, h.2⟩
          have hsl : ∀ W, (Instr.slice 22 (.slice A n c) (some (.int .i64 ((p : Int) + 4))) (some (.int .i64 ((p : Int) + 8))) none).run Tryd.prog W = .ok (.slice (cutA A c (p + 4)) 4 (c - (p + 4))) W := fun W => by
            have := run_cutlh (P := Tryd.prog) (w := W) 22 5 Tryd.underlying22 (by kernel_rfl) A n c (p + 4) (p + 8) (by omega) (by omega)
            rw [show p + 8 - (p + 4) = 4 from by omega] at this
            exact this
          by_cases hSX : S = X
          · subst hSX
            have hne : ((S : Int) != (S : Int)) = false := by simp
            cases hq : rdR ys with
            | none =>
              as_aux_lemma =>
                have HWHY := Lib.hid (HCASE.out.2.1 hq)
                have HO := Lib.hid (rdO_none (by rw [hyl.out]; omega) hq)
                clear hq HCASE
                refine wp_region_nw (by kernel_rfl) (by kernel_rfl) ?_
                repeat (go_big_quiet_step ((first | (go_at_call 10; exact calls_nw (HSUM.out _ (NwS.nw _))) | (go_at_call 35; exact calls_nw (HVAL.out _ (NwS.nw _))))))
                refine wpQuiet_nil ?_
                intro w3 hn3
                have hn13 := hn1.nw hn3
                go_wp2_with fail
                have hrd := rread_any A8 V (c - (p + 8)) _ ys w3 (HY.out.nw hn3) (by omega) (fun g hg => by have := HOK.out g hg; have := (hnw.nw hn13).size; omega)
                rw [HO.out] at hrd
                refine hrd.mono ?_
                rintro e w4 ⟨S1, sc1_, D1, dc1_, rfl, hs1, hd1, hn4⟩
                clear hrd hs1 hd1
                simp only at *
                unfold Rc.val
                go_upto_region 9 with ((with_reducible refine stAt 36 (.tmp 8) (.tmp 54) ?_); (refine wpList_store_row rfl 36 (.tmp 8) (.tmp 54) rfl w4.heap.size (zeroR.at_ S1 sc1_ D1 dc1_).cells rfl rfl 36 _ (heap_alloc_new _ _) (HZ.out _ _ _ _ _) (by rfl) (cells_one _) ?_; obtain ⟨hb9, hn5⟩ := row_new w4 #[.int .i64 0, .int .i64 0, .int .i64 0, .int .i64 0, .int .i64 0, .int .i64 0, .int .i64 0, .int .i64 0, .int .i64 0, .slice none 0 0, .slice none 0 0] (zeroR.at_ S1 sc1_ D1 dc1_).cells 36; generalize World.setRow (World.alloc w4 (.cells #[.int .i64 0, .int .i64 0, .int .i64 0, .int .i64 0, .int .i64 0, .int .i64 0, .int .i64 0, .int .i64 0, .int .i64 0, .slice none 0 0, .slice none 0 0] 36)) w4.heap.size (zeroR.at_ S1 sc1_ D1 dc1_).cells = w5 at *))
                have h61 : ((61 : Int) != 0) = true := by decide
                have HEND := Lib.hid (scend_of HSI HWHY HRW ((hn13.nw hn4).nw hn5) hnw)
                clear hb9
                go_wp2_with fail
                exact ⟨rfl, _, results_tmp2 (t := 2) (u := 3) rfl _ _ _, scpost_of HEND.out⟩
            | some s =>
              as_aux_lemma =>
                have HSTEP := Lib.hid (HSI.out.step (HCASE.out.2.2 s rfl hq))
                have HO := Lib.hid (rdO_some (by rw [hyl.out]; omega) hq)
                clear hq HCASE
                refine wp_region_nw (by kernel_rfl) (by kernel_rfl) ?_
                repeat (go_big_quiet_step ((first | (go_at_call 10; exact calls_nw (HSUM.out _ (NwS.nw _))) | (go_at_call 35; exact calls_nw (HVAL.out _ (NwS.nw _))))))
                refine wpQuiet_nil ?_
                intro w3 hn3
                have hn13 := hn1.nw hn3
                go_wp2_with fail
                have hrd := rread_any A8 V (c - (p + 8)) _ ys w3 (HY.out.nw hn3) (by omega) (fun g hg => by have := HOK.out g hg; have := (hnw.nw hn13).size; omega)
                rw [HO.out] at hrd
                refine hrd.mono ?_
                rintro e w4 ⟨S1, sc1_, D1, dc1_, rfl, hs1, hd1, hn4⟩
                have HG := Lib.hid (Got.mk' hs1 hd1)
                clear hrd hs1 hd1
                simp only at *
                unfold Rc.val
                go_upto_region 9 with ((with_reducible refine stAt 36 (.tmp 8) (.tmp 54) ?_); (refine wpList_store_row rfl 36 (.tmp 8) (.tmp 54) rfl w4.heap.size (s.a.at_ S1 sc1_ D1 dc1_).cells rfl rfl 36 _ (heap_alloc_new _ _) (HZ.out _ _ _ _ _) (by rfl) (cells_one _) ?_; obtain ⟨hb9, hn5⟩ := row_new w4 #[.int .i64 0, .int .i64 0, .int .i64 0, .int .i64 0, .int .i64 0, .int .i64 0, .int .i64 0, .int .i64 0, .int .i64 0, .slice none 0 0, .slice none 0 0] (s.a.at_ S1 sc1_ D1 dc1_).cells 36; generalize World.setRow (World.alloc w4 (.cells #[.int .i64 0, .int .i64 0, .int .i64 0, .int .i64 0, .int .i64 0, .int .i64 0, .int .i64 0, .int .i64 0, .int .i64 0, .slice none 0 0, .slice none 0 0] 36)) w4.heap.size (s.a.at_ S1 sc1_ D1 dc1_).cells = w5 at *))
                have hn15 := (hn13.nw hn4).nw hn5
                have hb9l : w5.heap[w4.heap.size]? = some (.cells #[.int .i64 s.a.k, .int .i64 s.a.o, .int .i64 s.a.n, .int .i64 s.a.p, .int .i64 s.a.v, .int .i64 s.a.f, .int .i64 s.a.r, .int .i64 s.a.z, .int .i64 s.a.h, .slice S1 s.a.sn sc1_, .slice D1 s.a.dn dc1_] 36 (0, 0)) := hb9
                have hrow := (HRW.out.nw hn15).row
                have hs0 := hnw.size
                have hs1 := hn13.size
                have hs4 := hn4.size
                have hs5 := hn5.size
                clear hb9
                go_upto_region 11 with (first | ((with_reducible refine opAt 59 ?_); (refine wpList_load_row rfl 36 _ rfl w4.heap.size rfl _ _ _ _ hb9l Tryd.underlying36 rfl (by kernel_rfl) ?_)) | ((with_reducible refine opAt 60 ?_); (refine wpList_build1 rfl 28 36 (.tmp 59) rfl eR #[.int .i64 s.a.k, .int .i64 s.a.o, .int .i64 s.a.n, .int .i64 s.a.p, .int .i64 s.a.v, .int .i64 s.a.f, .int .i64 s.a.r, .int .i64 s.a.z, .int .i64 s.a.h, .slice S1 s.a.sn sc1_, .slice D1 s.a.dn dc1_] rfl rfl (by omega) ?_)) | (at_builtin; (refine wpList_app1 w5 #[.int .i64 s.a.k, .int .i64 s.a.o, .int .i64 s.a.n, .int .i64 s.a.p, .int .i64 s.a.v, .int .i64 s.a.f, .int .i64 s.a.r, .int .i64 s.a.z, .int .i64 s.a.h, .slice S1 s.a.sn sc1_, .slice D1 s.a.dn dc1_] _ rfl (.tmp 58) (.tmp 60) 28 36 rfl eR w.heap.size _ _ _ hrow rfl 1 1 rfl rfl (by simp [Value.oneCell']) (by simp only [maxLen]; omega) (by omega) (by omega) ?_; intro v9 w9 ho9 hk9 ha9)))
                have HN9 := Lib.hid (Nw.row (hnw.nw hn15) hrow hk9)
                have hs9 := hk9.size
                have HR9 := Lib.hid ((HRW.out.nw hn15).snoc hk9 ((HG.out.nw hn5).kp hk9 (fun g h1 h2 e => by have := HRW.out.hv g e; omega)) (by omega) (by omega) (by omega) (by omega) ho9)
                clear hb9l hrow ho9 hk9 ha9 HG
                go_wp2_with fail
                go_roundw
                case rel => exact ⟨p + (8 + V), pre ++ [s], la ++ [s.a.at_ S1 sc1_ D1 dc1_], by omega, by go_num, HSTEP, HR9, HN9.out, by rw [List.length_append, List.length_singleton]; omega⟩
                case measure => simp [intOf]; omega
          · have hne : ((S : Int) != (X : Int)) = true := by rw [bne_iff_ne]; omega
            as_aux_lemma =>
              have HWHY := Lib.hid (HCASE.out.1 hSX)
              clear HCASE
              refine wp_region_nw (by kernel_rfl) (by kernel_rfl) ?_
              repeat (go_big_quiet_step ((first | (go_at_call 10; exact calls_nw (HSUM.out _ (NwS.nw _))) | (go_at_call 35; exact calls_nw (HVAL.out _ (NwS.nw _))))))
              refine wpQuiet_nil ?_
              intro w3 hn3
              have hn13 := hn1.nw hn3
              have HEND := Lib.hid (scend_of HSI HWHY HRW hn13 hnw)
              go_wp2_with fail
              exact ⟨rfl, _, results_tmp2 (t := 2) (u := 3) rfl _ _ _, scpost_of HEND.out⟩

end Go.Proofs.YtjgnapjhlhdgfaaDoor
