/- Frames: the law 'scans' walked: bytes scanned by the document and by the program tell the same, and what comes is its owner's. Frames: the law RecordScans walked. -/
import Derived.Test.YtjgnapjhlhdgfaaDoorDh
set_option linter.unusedVariables false
set_option linter.unusedSimpArgs false
namespace Go.Proofs.YtjgnapjhlhdgfaaDoor
open Go.RowKit

set_option maxRecDepth 100000 in
set_option maxHeartbeats 12800000 in
theorem scans_any (A : Option Addr) (n c : Nat) (ok : Nat → Prop) (xs : List UInt8) (w : World) (hT : TabOk w) (hr : Rd w ok 1 A n (bys xs)) (hnc : n ≤ c) (hnb : n ≤ 800000000) (hok : ∀ g, ok g → g < w.heap.size) :
    Calls Tryd.prog 11 #[.slice A n c] w fun e w' => e = .returned (.bool true) ∧ Nw w w' := by
  have hxl : xs.length = n := by have := hr.len; rwa [bys_len] at this
  have HR := Lib.hid hr
  have HT := Lib.hid hT
  have HOK := Lib.hid hok
  obtain ⟨L, N, M, hSC, hsm, hN8⟩ : ∃ (L : List RSt) (N M : Nat), (∀ e w0 w', ScPost w0 xs e w' → ScPostN w0 L N M e w') ∧ Small L ∧ N ≤ 100000000 :=
    ⟨_, _, _, fun e w0 w' h => scpostN h, scn_small xs, by have := scn_len xs; omega⟩
  have HSC := Lib.hid hSC
  have HSM := Lib.hid hsm
  have HXL := Lib.hid hxl
  have eb := Tryd.elU8
  have eR := Tryd.elRc
  clear hr hT hok hSC hsm hxl
  go_enter Tryd.func11, Tryd.ntmps11
  go_wp2_with fail
  refine (refscan_any A n c ok xs w HR.out hnc (by omega) HOK.out).mono ?_
  intro e w1 h
  obtain ⟨la0, A0, c0, rfl, hc0, hR0, hn1⟩ := HSC.out _ _ _ h
  have HR0 := Lib.hid hR0
  have hs1 := hn1.size
  clear h hR0
  have hnil : w1.ownsRow w1.heap.size 5 1 (.slice none 0 0) 0 (bys []) := World.ownsRow_nil _ _ _ _
  have hr1 := HR.out.nw hn1
  go_upto_region 4 with (at_builtin; (refine wpList_appv _ rfl (.tmp 25) (.tmp 26) 22 5 rfl eb w1.heap.size _ _ _ hnil rfl _ A _ c _ hr1 rfl (bys_one _) (by simp only [maxLen]; omega) (by omega) (Nat.le_refl _) ?_; intro v4 w4 ho4 hk4 ha4))
  have hnw4 : Nw w1 w4 := hk4.mono fun i _ e => by simp [Value.ownBlock] at e
  rw [Nat.zero_add] at ho4
  have hs4 := hnw4.size
  go_upto_region 5 with (at_builtin; (refine wpList_app1 w4 #[.int .u8 177, .int .u8 178] _ rfl (.tmp 28) (.tmp 29) 22 5 rfl eb w1.heap.size _ _ _ ho4 rfl 2 2 rfl rfl (by simp [Value.oneCell']) (by simp only [maxLen]; omega) (by omega) (by omega) ?_; intro v5 w5 ho5 hk5 ha5))
  have ho5' : w5.ownsRow w1.heap.size 5 1 v5 (n + 2) (bys (xs ++ [177, 178])) := by rw [bys_app]; exact ho5
  have hnw5 : Nw w1 w5 := Nw.row hnw4 ho4 hk5
  clear ho5 ho4 hnil hr1
  obtain ⟨A5, c5, rfl, hc5, _⟩ := own_read ho5'
  obtain ⟨g, rfl⟩ := own_some ho5' (by omega)
  have hg1 : w1.heap.size ≤ g := own_ge ho5' rfl
  have hg5 : g < w5.heap.size := own_lt ho5' rfl
  have HROW := Lib.hid ho5'
  have hown5 : w5.ownsRow w1.heap.size 5 1 (.slice (some ⟨g, 0, none⟩) n c5) n (bys xs) := by
    have := own_take ho5' (k := n) (by omega) (by simp)
    rwa [Nat.mul_one, ← bys_take, ← HXL.out, List.take_left, HXL.out] at this
  have hn5 := hn1.nw hnw5
  have HOWN := Lib.hid hown5
  have hnc5 : (n : Int) ≤ (c5 : Int) := by omega
  clear ho5' hk4 ha4 hk5 ha5 hnw4 hs4 hown5
  go_wp2_with fail
  refine (scan_any (some ⟨g, 0, none⟩) n c5 _ xs w5 (TabOk.nw HT.out hn5) (own_slice HOWN.out) (by omega) (by omega) (fun g' hg' => own_lt HOWN.out hg')).mono ?_
  intro e w6 h
  obtain ⟨la1, A1, c1, rfl, hc1, hR1, hn6⟩ := HSC.out _ _ _ h
  have HR1 := Lib.hid hR1
  have hs6 := hn6.size
  clear h hR1
  go_wp2_with fail
  have hown6 := own_nw HOWN.out hn6
  refine (scan_any (some ⟨g, 0, none⟩) n c5 _ xs w6 (TabOk.nw HT.out (hn5.nw hn6)) (own_slice hown6) (by omega) (by omega) (fun g' hg' => own_lt hown6 hg')).mono ?_
  intro e w7 h
  obtain ⟨la2, A2, c2, rfl, hc2, hR2, hn7⟩ := HSC.out _ _ _ h
  have HR2 := Lib.hid hR2
  have hs7 := hn7.size
  clear h hR2 hown6
  have hn67 := hn6.nw hn7
  have hs5 := hn5.size
  go_wp2_with fail
  refine (sameall_rws (HR1.out.nw hn7) (HR0.out.nw (hnw5.nw hn67)) (by omega) HSM.out).mono ?_
  rintro e w8 ⟨rfl, hn8⟩
  go_wp2_with fail
  refine (sameall_rws (HR2.out.nw hn8) (HR0.out.nw ((hnw5.nw hn67).nw hn8)) (by omega) HSM.out).mono ?_
  rintro e w9 ⟨rfl, hn9⟩
  have hn89 := hn8.nw hn9
  have hn59 := hn67.nw hn89
  go_wp2_with fail
  refine (sameb_any _ _ n _ _ _ _ xs w9 (own_slice (own_nw HOWN.out hn59)) (HR.out.nw (hn5.nw hn59)) (by omega)).mono ?_
  rintro e w10 ⟨rfl, hn10⟩
  have hn510 := hn59.nw hn10
  have hrow := own_nw HROW.out hn510
  have hm1 := own_atn hrow (k := n) (v := .int .u8 177) (by rw [bys_app, ← HXL.out, ← bys_len xs, at_app0]; rfl)
  have hm2 := own_atn hrow (k := n + 1) (v := .int .u8 178) (by rw [bys_app, ← HXL.out, ← bys_len xs, at_app]; rfl)
  have hee : ((M : Int) != (M : Int)) = false := by simp
  have hnn : (n : Int) < (n : Int) + 2 := by omega
  have hs10 := hn510.size
  have hROW10 : Hid (∃ ys, w10.ownsRow w1.heap.size 5 1 (.slice (some ⟨g, 0, none⟩) (n + 2) c5) (n + 2) ys) := Lib.hid ⟨_, hrow⟩
  have hR0' := Lib.hid (HR0.out.nw (hnw5.nw hn510))
  have hR1' := Lib.hid (HR1.out.nw (hn7.nw (hn89.nw hn10)))
  have hR2' := Lib.hid (HR2.out.nw (hn89.nw hn10))
  have hn010 := hn5.nw hn510
  clear hrow hn1 hn5 hn6 hn7 hn8 hn9 hn10 hn67 hn89 hn59 hn510 hnw5 hnc5 hc5 HR0 HR1 HR2 HROW HOWN
  go_upto_region 12 with (fail)
  clear hm1 hm2 hee
  go_wp2_with fail
  go_loopw [13] (fun q wr => ∃ k : Nat, k ≤ n + 2 ∧ q = .int .i64 k ∧ Hid (∃ ys, wr.ownsRow w1.heap.size 5 1 (.slice (some ⟨g, 0, none⟩) (n + 2) c5) (n + 2) ys) ∧ Kp (fun i => i = g) w10 wr) (fun q _ => n + 2 - (intOf q).toNat)
  case atStart => exact ⟨0, by omega, rfl, hROW10, Kp.refl _ _⟩
  case round =>
    obtain ⟨k, hk, rfl, how, hkp⟩ := hrel
    by_cases hlt : k < n + 2
    · obtain ⟨ys, hy⟩ := how.out
      obtain ⟨⟨vv, hcl⟩, hfz, HST⟩ := own_st hy (.int .u8 201) hlt
      have h1 : (k : Int) < (n : Int) + 2 := by omega
      have h0 : (0 : Int) ≤ (k : Int) := by omega
      clear hy how
      go_wp2_with fail
      go_roundw
      case rel => exact ⟨k + 1, by omega, by go_num, Lib.hid HST.out.1, hkp.trans HST.out.2 fun _ _ e => e⟩
      case measure => simp [intOf]; omega
    · have h1 : ¬ (k : Int) < (n : Int) + 2 := by omega
      obtain ⟨w11, rfl⟩ : ∃ w11 : World, w11 = wr := ⟨_, rfl⟩
      have hs11 := hkp.size
      have hr0 := Lib.hid (hR0'.out.kp hkp fun i h1 h2 e => by omega)
      have hr1 := Lib.hid (hR1'.out.kp hkp fun i h1 h2 e => by omega)
      have hr2 := Lib.hid (hR2'.out.kp hkp fun i h1 h2 e => by omega)
      have hn11 : Nw w w11 := hn010.trans hkp fun i hi e => by omega
      clear hkp how hR0' hR1' hR2' hROW10
      go_wp2_with fail
      clear h1
      refine (sameall_rws hr1.out hr0.out (by omega) HSM.out).mono ?_
      rintro e w12 ⟨rfl, hn12⟩
      go_wp2_with fail
      refine (owned_rws (hr1.out.nw hn12) (by omega) HSM.out).mono ?_
      rintro e w13 ⟨rfl, X, hk13, hX⟩
      have hs12 := hn12.size
      have hs13 := hk13.size
      have hr0' := Lib.hid ((hr0.out.nw hn12).kp hk13 fun i h1 h2 e => by have := (hX i e).1; omega)
      have hr2' := Lib.hid ((hr2.out.nw hn12).kp hk13 fun i h1 h2 e => by have := (hX i e).1; omega)
      have hrow1 : Hid (∃ ys, w13.ownsRow w5.heap.size 36 11 (.slice A1 N c1) N ys) := Lib.hid ⟨_, own_kp (own_nw hr1.out.rowN hn12) hk13 fun i hi e => (hX i e).2 hi⟩
      have HV1 : Hid (∀ i, (Value.slice A1 N c1).ownBlock = some i → w5.heap.size ≤ i ∧ i < w6.heap.size) := Lib.hid fun i hi => ⟨own_ge hr1.out.rowN hi, hr1.out.hv i hi⟩
      have hn13 : Nw w w13 := (hn11.nw hn12).trans hk13 fun i hi e => by have := (hX i e).1; omega
      clear hk13 hX hr0 hr1 hr2
      go_wp2_with fail
      refine (sameall_rws hr2'.out hr0'.out (by omega) HSM.out).mono ?_
      rintro e w14 ⟨rfl, hn14⟩
      have hs14 := hn14.size
      have hR0 := Lib.hid (hr0'.out.nw hn14)
      have hR2 := Lib.hid (hr2'.out.nw hn14)
      have hrow14 : Hid (∃ ys, w14.ownsRow w5.heap.size 36 11 (.slice A1 N c1) N ys) := Lib.hid (by obtain ⟨ys, hy⟩ := hrow1.out; exact ⟨ys, own_nw hy hn14⟩)
      have hn014 := hn13.nw hn14
      clear hr0' hr2' hrow1
      go_wp2_with fail
      go_loopw [17] (fun q wr => ∃ k : Nat, k ≤ N ∧ q = .int .i64 k ∧ Hid (∃ ys, wr.ownsRow w5.heap.size 36 11 (.slice A1 N c1) N ys) ∧ Kp (fun i => (Value.slice A1 N c1).ownBlock = some i) w14 wr) (fun q _ => N - (intOf q).toNat)
      case atStart => exact ⟨0, by omega, rfl, hrow14, Kp.refl _ _⟩
      case round =>
        obtain ⟨k, hk, rfl, how, hkp⟩ := hrel
        by_cases hlt : k < N
        · obtain ⟨ys, hy⟩ := how.out
          obtain ⟨g1, rfl⟩ := own_some hy (by omega)
          have hm := mul11 hlt
          have hth : Hid (wr.there g1 (k * 11) 11) := Lib.hid (own_there hy (k * 11) 11 hm)
          have HST := Lib.hid (own_setCells (#[.int .i64 (-1), .int .i64 0, .int .i64 0, .int .i64 0, .int .i64 0, .int .i64 0, .int .i64 0, .int .i64 0, .int .i64 0, .slice none 0 0, .slice none 0 0] : Array Value).toList (k * 11) wr ys hy)
          have hin : Hid ((Tryd.prog.info? 36).map (·.size) = some 11) := Lib.hid (by kernel_rfl)
          have h1 : (k : Int) < (N : Int) := by omega
          have h0 : (0 : Int) ≤ (k : Int) := by omega
          clear hy how hm
          go_wp2_with ((with_reducible refine stAt 36 (.tmp 122) (.tmp 121) ?_); (refine wpList_store_mid rfl 36 (.tmp 122) (.tmp 121) rfl g1 (k * 11) #[.int .i64 (-1), .int .i64 0, .int .i64 0, .int .i64 0, .int .i64 0, .int .i64 0, .int .i64 0, .int .i64 0, .int .i64 0, .slice none 0 0, .slice none 0 0] rfl rfl hth.out hin.out (by simp [Value.oneCell']) ?_))
          go_roundw
          case rel => exact ⟨k + 1, by omega, by go_num, Lib.hid HST.out.1, hkp.trans HST.out.2 fun _ _ e => by rw [e]; rfl⟩
          case measure => simp [intOf]; omega
        · have h1 : ¬ (k : Int) < (N : Int) := by omega
          obtain ⟨w15, rfl⟩ : ∃ w15 : World, w15 = wr := ⟨_, rfl⟩
          have hs15 := hkp.size
          go_wp2_with fail
          clear h1
          go_loopw [6, 18] (fun v q wr => ∃ k : Nat, k ≤ 5 ∧ q = .int .i64 k ∧ Hid (∃ ys, wr.ownsRow w5.heap.size 36 11 v (N + k) ys) ∧ Kp (fun i => (Value.slice A1 N c1).ownBlock = some i) w15 wr ∧ OwnAt w15 (.slice A1 N c1) v) (fun _ q _ => 5 - (intOf q).toNat)
          case atStart => exact ⟨0, by omega, rfl, how, Kp.refl _ _, OwnAt.refl _ _⟩
          case round =>
            obtain ⟨q, hq, rfl, how, hkq, hat⟩ := hrel
            have hs16 := hkq.size
            by_cases hlt : q < 5
            · obtain ⟨ys, hy⟩ := how.out
              have h5 : (q : Int) < 5 := by omega
              clear how
              go_wp2_with (first | ((with_reducible refine opAt 129 ?_); (refine wpList_build1 rfl 28 36 (.tmp 128) rfl eR #[.int .i64 (-2), .int .i64 0, .int .i64 0, .int .i64 0, .int .i64 0, .int .i64 0, .int .i64 0, .int .i64 0, .int .i64 0, .slice none 0 0, .slice none 0 0] rfl rfl (by omega) ?_)) | (at_builtin; (refine wpList_app1 wr #[.int .i64 (-2), .int .i64 0, .int .i64 0, .int .i64 0, .int .i64 0, .int .i64 0, .int .i64 0, .int .i64 0, .int .i64 0, .slice none 0 0, .slice none 0 0] _ rfl (.tmp 127) (.tmp 129) 28 36 rfl eR w5.heap.size _ _ _ hy rfl 1 1 rfl rfl (by simp [Value.oneCell']) (by simp only [maxLen]; omega) (by omega) (by omega) ?_; intro v17 w17 ho17 hk17 ha17)))
              go_roundw
              case rel => exact ⟨q + 1, by omega, by go_num, Lib.hid ⟨_, ho17⟩, hat.kp hkq (fun _ e => e) hk17, hat.trans ha17 hkq.size⟩
              case measure => simp [intOf]; omega
            · have hq5 : q = 5 := by omega
              subst hq5
              have h5 : ¬ ((5 : Nat) : Int) < 5 := by omega
              obtain ⟨ys, hy⟩ := how.out
              obtain ⟨A6, c6, rfl, _, _⟩ := own_read hy
              have hk1 : Kp (fun i => (Value.slice A1 N c1).ownBlock = some i) w14 wr := hkp.trans hkq fun _ _ e => e
              have hf0 := Lib.hid (hR0.out.kp hk1 fun i h1 h2 e => by have := HV1.out i e; omega)
              have hf2 := Lib.hid (hR2.out.kp hk1 fun i h1 h2 e => by have := HV1.out i e; omega)
              have hnf : Nw w wr := hn014.trans hk1 fun i hi e => by have := HV1.out i e; omega
              have hlen : (((N + 5 : Nat) : Int) == (N : Int) + 5) = true := by rw [beq_iff_eq]; omega
              have hlen2 : ((N : Int) + 5 == (N : Int) + 5) = true := by simp
              clear hk1 hy how hkq hkp hat hR0 hR2
              go_wp2_with fail
              refine (sameall_rws hf2.out hf0.out (by omega) HSM.out).mono ?_
              rintro e w18 ⟨rfl, hn18⟩
              go_wp2_with fail
              go_ret
              exact ⟨rfl, hnf.nw hn18⟩

end Go.Proofs.YtjgnapjhlhdgfaaDoor

namespace Go.Proofs.YtjgnapjhlhdgfaaDoor
open Go.RowKit

set_option maxRecDepth 100000 in
theorem law_RecordScans (A : Option Addr) (n c : Nat) (xs : List UInt8) (w : World) (hT : TabOk w) (hr : Rd w (fun _ => True) 1 A n (bys xs)) (hnc : n ≤ c) (hb : c ≤ 1048576) :
    Calls Tryd.prog 4 #[.slice A n c] w fun e w' => e = .returned (.bool true) ∧ Nw w w' := by
  have HR := Lib.hid (hr.inb (by omega))
  have HT := Lib.hid hT
  clear hr hT
  go_enter Tryd.func4, Tryd.ntmps4
  go_wp2_with fail
  refine (awake_any _).mono ?_
  rintro e w1 ⟨rfl, hn1⟩
  go_wp2_with fail
  refine (scans_any A n c _ xs w1 (TabOk.nw HT.out hn1) (HR.out.nw hn1) hnc (by omega) (fun g hg => by have := hn1.size; omega)).mono ?_
  rintro e w2 ⟨rfl, hn2⟩
  go_wp2_with fail
  go_ret
  exact ⟨rfl, hn1.nw hn2⟩

end Go.Proofs.YtjgnapjhlhdgfaaDoor
