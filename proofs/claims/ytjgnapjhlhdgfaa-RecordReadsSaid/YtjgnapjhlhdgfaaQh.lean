/- Records: printed and read back: the law's walk. -/
import Derived.Test.YtjgnapjhlhdgfaaQf
import Derived.Test.YtjgnapjhlhdgfaaQg
import Derived.Test.YtjgnapjhlhdgfaaRq
set_option linter.unusedVariables false
set_option linter.unusedSimpArgs false
namespace Go.Proofs.Ytjgnapjhlhdgfaa
open Go.RowKit

theorem row_new (W : World) (Z C : Array Value) (t : TypeId) : ((W.alloc (.cells Z t)).setRow W.heap.size C).heap[W.heap.size]? = some (.cells C t (0, 0)) ∧ Nw W ((W.alloc (.cells Z t)).setRow W.heap.size C) := by
  obtain ⟨h1, h2⟩ := row_set (cs := C) (heap_alloc_new W (.cells Z t))
  refine ⟨h1, Kp.trans (S := fun _ => False) ((Kp.refl _ W).alloc _) h2 fun i hi e => ?_⟩
  omega
theorem Rd.inb {w : World} {size n : Nat} {A : Option Addr} {xs : List Value} (h : Rd w (fun _ => True) size A n xs) (hs : 0 < size) : Rd w (fun g => g < w.heap.size) size A n xs := by
  refine ⟨h.1, fun hn => ?_⟩
  obtain ⟨ad, e, _, hc⟩ := h.2 hn
  refine ⟨ad, e, ?_, hc⟩
  have hl : 0 < xs.length := by rw [h.1]; exact Nat.mul_pos (by omega) hs
  have := hc 0 xs[0] (List.getElem?_eq_getElem hl)
  exact World.block_lt_of_cell? _ _ this
theorem rdR_bound {xs : List UInt8} {s : RSt} (h : rdR xs = some s) : s.a.sn ≤ 65536 ∧ s.a.dn ≤ 65536 := by
  obtain ⟨h1, h2, h3, h4⟩ := prR_rdR h
  have hf := okR_f h1
  obtain ⟨m1, m2, m3⟩ := okR_more h1
  refine ⟨?_, ?_⟩
  · by_cases hc : 8 ∈ fds s.a.k
    · have := hf.spn hc
      omega
    · rw [m2 hc]; omega
  · by_cases hc : 9 ∈ fds s.a.k
    · exact hf.dat hc
    · rw [m1 hc]; omega

set_option maxRecDepth 100000 in
set_option maxHeartbeats 12800000 in
theorem law_RecordBack (a : Rc) (sp : List (Int × Int)) (dt : List UInt8) (B : Option Addr) (nb cb : Nat) (xs : List UInt8) (w : World) (hr : Rd w (fun _ => True) 2 a.S a.sn (sps sp)) (hrd : Rd w (fun _ => True) 1 a.D a.dn (bys dt))
    (hsc : a.sn ≤ a.sc) (hdc : a.dn ≤ a.dc) (hb0 : a.sc * 16 ≤ 140737488351232) (hb1 : a.dc * 1 ≤ 140737488351232) (hrb : Rd w (fun _ => True) 1 B nb (bys xs)) (hnb : nb ≤ cb) (hcb : cb * 1 ≤ 140737488351232) :
    Calls Try.prog 5 #[a.val, .slice B nb cb] w fun e w' => e = .returned (.bool true) ∧ Nw w w' := by
  have hsl : sp.length = a.sn := by have := hr.1; rw [sps_len] at this; omega
  have hdl : dt.length = a.dn := by have := hrd.len; rwa [bys_len] at this
  have hxl : xs.length = nb := by have := hrb.len; rwa [bys_len] at this
  have hn : a.sn ≤ 8796093022000 := by omega
  have hd : a.dn ≤ 140737488351232 := by omega
  have HR := Lib.hid hr
  have HD := Lib.hid hrd
  have HB := Lib.hid (hrb.inb (by omega))
  have HXL := Lib.hid hxl
  have HSL := Lib.hid hsl
  have HDL := Lib.hid hdl
  clear hsl hdl hr hrd hsc hdc hb0 hb1 hrb
  show Calls Try.prog 5 #[.agg a.cells, .slice B nb cb] w _
  have hbk1 : (w.alloc (.cells a.cells 27)).heap[w.heap.size]? = some (.cells a.cells 27 (0, 0)) := heap_alloc_new _ _
  have HBK1 := Lib.hid hbk1
  have hn1 : Nw w (w.alloc (.cells a.cells 27)) := (Kp.refl _ _).alloc _
  clear hbk1
  go_enter Try.func5, Try.ntmps5
  go_wp2_with fail
  refine (awake_any _).mono ?_
  rintro e w2 ⟨rfl, hnw2⟩
  have hb2 := blk_nw HBK1.out hnw2
  have hn2 := hn1.nw hnw2
  go_wp2_with ((with_reducible refine opAt 19 ?_); go_loud (refine wpList_load_row rfl 27 _ rfl w.heap.size rfl _ _ _ _ hb2 Try.underlying27 rfl (by kernel_rfl) ?_))
  refine (rprint_any a _ _ sp dt w2 (HR.out.nw hn2) (HD.out.nw hn2) (by omega) (by omega)).mono ?_
  rintro e w3 ⟨v4, rfl, ho4, hnw3⟩
  have hn3 := hn2.nw hnw3
  have hb3 := blk_nw hb2 hnw3
  go_wp2_with ((with_reducible refine opAt 23 ?_); go_loud (refine wpList_load_row rfl 27 _ rfl w.heap.size rfl _ _ _ _ hb3 Try.underlying27 rfl (by kernel_rfl) ?_))
  refine (rright_any a _ sp w3 (HR.out.nw hn3) (by omega) (by omega)).mono ?_
  rintro e w4 ⟨rfl, hnw4⟩
  have hn4 := hn3.nw hnw4
  have hb4 := blk_nw hb3 hnw4
  have ho4' := own_nw ho4 hnw4
  clear hb2 hb3 ho4 HBK1
  unfold errR
  cases hok : okR a sp with
  | false =>
    go_upto_region 11 with (fail)
    have hRb := (HB.out.nw hn4)
    go_wp2_with fail
    refine (rread_any B nb cb _ xs w4 hRb hnb (fun g hg => by have := hn4.size; omega)).mono ?_
    rintro e x1 ⟨S2, sc2, D2, dc2, rfl, hs2, hd2, hnx1⟩
    by_cases hlong : xs.length > 131072
    · have hO : rdO xs = (⟨zeroR, [], [], []⟩, 2) := by unfold rdO; rw [if_pos hlong]
      rw [hO]
      unfold Rc.val
      have hlb : (131072 : Int) < (nb : Int) := by omega
      have hlb2 : decide (131072 < nb) = true := by simp; omega
      clear hO
      have haz : Hid ((zeroR.at_ S2 sc2 D2 dc2).cells.all (·.oneCell') = true) := by show _ = _; exact cells_one _
      have hiz : Hid ((Try.prog.info? 27).map (·.size) = some (zeroR.at_ S2 sc2 D2 dc2).cells.size) := by show _ = _; kernel_rfl
      have hcz : Hid ((#[.int .i64 0, .int .i64 0, .int .i64 0, .int .i64 0, .int .i64 0, .int .i64 0, .int .i64 0, .int .i64 0, .int .i64 0, .slice none 0 0, .slice none 0 0] : Array Value).size = (zeroR.at_ S2 sc2 D2 dc2).cells.size) := by show _ = _; rfl
      simp only
      generalize (zeroR.at_ S2 sc2 D2 dc2).cells = C2 at *
      go_wp2_with ((with_reducible refine stAt 27 (.tmp 12) (.tmp 56) ?_); go_loud (refine wpList_store_row rfl 27 (.tmp 12) (.tmp 56) rfl x1.heap.size C2 rfl rfl 27 _ (heap_alloc_new _ _) hiz.out hcz.out haz.out ?_; obtain ⟨hb2x, hnx2⟩ := row_new x1 #[.int .i64 0, .int .i64 0, .int .i64 0, .int .i64 0, .int .i64 0, .int .i64 0, .int .i64 0, .int .i64 0, .int .i64 0, .slice none 0 0, .slice none 0 0] C2 27; generalize World.setRow (World.alloc x1 (.cells #[.int .i64 0, .int .i64 0, .int .i64 0, .int .i64 0, .int .i64 0, .int .i64 0, .int .i64 0, .int .i64 0, .int .i64 0, .slice none 0 0, .slice none 0 0] 27)) x1.heap.size C2 = x2 at *))
      go_ret
      exact ⟨rfl, (hn4.nw hnx1).nw hnx2⟩
    · cases hq : rdR xs with
      | none =>
        have hO : rdO xs = (⟨zeroR, [], [], []⟩, 61) := by unfold rdO; rw [if_neg hlong, hq]
        rw [hO]
        unfold Rc.val
        clear hO
        have haz : Hid ((zeroR.at_ S2 sc2 D2 dc2).cells.all (·.oneCell') = true) := by show _ = _; exact cells_one _
        have hiz : Hid ((Try.prog.info? 27).map (·.size) = some (zeroR.at_ S2 sc2 D2 dc2).cells.size) := by show _ = _; kernel_rfl
        have hcz : Hid ((#[.int .i64 0, .int .i64 0, .int .i64 0, .int .i64 0, .int .i64 0, .int .i64 0, .int .i64 0, .int .i64 0, .int .i64 0, .slice none 0 0, .slice none 0 0] : Array Value).size = (zeroR.at_ S2 sc2 D2 dc2).cells.size) := by show _ = _; rfl
        simp only
        generalize (zeroR.at_ S2 sc2 D2 dc2).cells = C2 at *
        go_wp2_with ((with_reducible refine stAt 27 (.tmp 12) (.tmp 56) ?_); go_loud (refine wpList_store_row rfl 27 (.tmp 12) (.tmp 56) rfl x1.heap.size C2 rfl rfl 27 _ (heap_alloc_new _ _) hiz.out hcz.out haz.out ?_; obtain ⟨hb2x, hnx2⟩ := row_new x1 #[.int .i64 0, .int .i64 0, .int .i64 0, .int .i64 0, .int .i64 0, .int .i64 0, .int .i64 0, .int .i64 0, .int .i64 0, .slice none 0 0, .slice none 0 0] C2 27; generalize World.setRow (World.alloc x1 (.cells #[.int .i64 0, .int .i64 0, .int .i64 0, .int .i64 0, .int .i64 0, .int .i64 0, .int .i64 0, .int .i64 0, .int .i64 0, .slice none 0 0, .slice none 0 0] 27)) x1.heap.size C2 = x2 at *))
        go_ret
        exact ⟨rfl, (hn4.nw hnx1).nw hnx2⟩
      | some s =>
        have hO : rdO xs = (s, 0) := by unfold rdO; rw [if_neg hlong, hq]
        rw [hO] at hs2 hd2 ⊢
        simp only at hs2 hd2 ⊢
        obtain ⟨ho1, ho2, ho3, ho4⟩ := prR_rdR hq
        have hpx : prO s.a s.sp s.dt = xs := by unfold prO; rw [if_pos ho1]; exact ho2
        have hbn := rdR_bound hq
        have haz : Hid ((s.a.at_ S2 sc2 D2 dc2).cells.all (·.oneCell') = true) := by show _ = _; exact cells_one _
        have hiz : Hid ((Try.prog.info? 27).map (·.size) = some (s.a.at_ S2 sc2 D2 dc2).cells.size) := by show _ = _; kernel_rfl
        have hcz : Hid ((#[.int .i64 0, .int .i64 0, .int .i64 0, .int .i64 0, .int .i64 0, .int .i64 0, .int .i64 0, .int .i64 0, .int .i64 0, .slice none 0 0, .slice none 0 0] : Array Value).size = (s.a.at_ S2 sc2 D2 dc2).cells.size) := by show _ = _; rfl
        have HP := Lib.hid (fun W (h : Nw x1 W) => rprint_any (s.a.at_ S2 sc2 D2 dc2) _ _ s.sp s.dt W (own_slice (own_nw hs2 h)) (own_slice (own_nw hd2 h)) (by show s.a.sn ≤ _; omega) (by show s.a.dn ≤ _; omega))
        have hpr : Hid (prO (s.a.at_ S2 sc2 D2 dc2) s.sp s.dt = xs) := hpx
        have hok3 : Hid (okR (s.a.at_ S2 sc2 D2 dc2) s.sp = true) := ho1
        rw [hpr.out, hok3.out] at HP
        have hnz : Nw w x1 := hn4.nw hnx1
        clear hs2 hd2 hpx ho1 ho2 ho3 ho4 hq hO hpr hok3 hbn
        unfold Rc.val at HP ⊢
        unfold errR at HP
        generalize (s.a.at_ S2 sc2 D2 dc2).cells = C2 at *
        go_wp2_with (first | ((with_reducible refine stAt 27 (.tmp 12) (.tmp 56) ?_); go_loud (refine wpList_store_row rfl 27 (.tmp 12) (.tmp 56) rfl x1.heap.size C2 rfl rfl 27 _ (heap_alloc_new _ _) hiz.out hcz.out haz.out ?_; obtain ⟨hb2x, hnx2⟩ := row_new x1 #[.int .i64 0, .int .i64 0, .int .i64 0, .int .i64 0, .int .i64 0, .int .i64 0, .int .i64 0, .int .i64 0, .int .i64 0, .slice none 0 0, .slice none 0 0] C2 27; generalize World.setRow (World.alloc x1 (.cells #[.int .i64 0, .int .i64 0, .int .i64 0, .int .i64 0, .int .i64 0, .int .i64 0, .int .i64 0, .int .i64 0, .int .i64 0, .slice none 0 0, .slice none 0 0] 27)) x1.heap.size C2 = x2 at *)) | ((with_reducible refine opAt 72 ?_); go_loud (refine wpList_load_row rfl 27 _ rfl x1.heap.size rfl _ _ _ _ hb2x Try.underlying27 rfl hiz.out ?_)))
        refine (HP.out x2 hnx2).mono ?_
        rintro e x3 ⟨v14, rfl, ho14, hnx3⟩
        obtain ⟨A14, c14, rfl, _, hr14⟩ := own_read ho14
        go_wp2_with fail
        have hnxz := (hnz.nw hnx2).nw hnx3
        have hxl : xs.length = nb := HXL.out
        rw [hxl] at hr14
        refine (sameb_any _ _ _ _ _ _ _ xs x3 hr14 (HB.out.nw hnxz) (by omega)).mono ?_
        rintro e x4 ⟨rfl, hnx4⟩
        go_wp2_with fail
        go_ret
        exact ⟨rfl, hnxz.nw hnx4⟩
  | true =>
    have hpo : prO a sp dt = prR a sp dt := by unfold prO; rw [if_pos hok]
    have hpr := rdR_prR hok HSL.out HDL.out
    have hps := prR_small hok HSL.out HDL.out
    rw [hpo] at ho4'
    have hrO : rdO (prR a sp dt) = (⟨a.at_ none 0 none 0, sp, dt, []⟩, 0) := by
      unfold rdO
      rw [if_neg (by omega), hpr]
    generalize prR a sp dt = L at *
    obtain ⟨A4, c4, rfl, hc4, hr4⟩ := own_read ho4'
    have hbl4 : ∀ g, (Value.slice A4 L.length c4).ownBlock = some g → g < w4.heap.size := fun g hg => own_lt ho4' hg
    clear hpo hpr ho4'
    go_wp2_with fail
    refine (rread_any A4 L.length c4 _ L w4 hr4 hc4 hbl4).mono ?_
    rintro e w5 ⟨S1, sc1, D1, dc1, rfl, hs1, hd1, hnw5⟩
    rw [hrO] at hs1 hd1 ⊢
    simp only at hs1 hd1 ⊢
    have hn5 := hn4.nw hnw5
    have hb5 := blk_nw hb4 hnw5
    have hat : ∀ S sc D dc, (a.at_ none 0 none 0).at_ S sc D dc = a.at_ S sc D dc := fun _ _ _ _ => rfl
    rw [hat]
    have haz : Hid ((a.at_ S1 sc1 D1 dc1).cells.all (·.oneCell') = true) := by show _ = _; exact cells_one _
    have hiz : Hid ((Try.prog.info? 27).map (·.size) = some (a.at_ S1 sc1 D1 dc1).cells.size) := by show _ = _; kernel_rfl
    have hcz : Hid ((#[.int .i64 0, .int .i64 0, .int .i64 0, .int .i64 0, .int .i64 0, .int .i64 0, .int .i64 0, .int .i64 0, .int .i64 0, .slice none 0 0, .slice none 0 0] : Array Value).size = (a.at_ S1 sc1 D1 dc1).cells.size) := by show _ = _; rfl
    have hSM : Hid (∀ W, Nw w5 W → Calls Try.prog 13 #[.agg (a.at_ S1 sc1 D1 dc1).cells, .agg a.cells] W fun e w' => e = .returned (.bool true) ∧ Nw W w') := fun W h =>
      same_any (a.at_ S1 sc1 D1 dc1) a.S a.sc a.D a.dc _ _ _ _ sp dt W (own_slice (own_nw hs1 h)) (own_slice (own_nw hd1 h)) (HR.out.nw (hn5.nw h)) (HD.out.nw (hn5.nw h)) (by show a.sn ≤ _; omega) (by show a.dn ≤ _; omega)
    clear hs1 hd1 hb4 hrO hat
    unfold Rc.val
    generalize (a.at_ S1 sc1 D1 dc1).cells = C1 at *
    go_wp2_with (first | ((with_reducible refine stAt 27 (.tmp 9) (.tmp 37) ?_); go_loud (refine wpList_store_row rfl 27 (.tmp 9) (.tmp 37) rfl w5.heap.size C1 rfl rfl 27 _ (heap_alloc_new _ _) hiz.out hcz.out haz.out ?_; obtain ⟨hb6, hnw6⟩ := row_new w5 #[.int .i64 0, .int .i64 0, .int .i64 0, .int .i64 0, .int .i64 0, .int .i64 0, .int .i64 0, .int .i64 0, .int .i64 0, .slice none 0 0, .slice none 0 0] C1 27; generalize World.setRow (World.alloc w5 (.cells #[.int .i64 0, .int .i64 0, .int .i64 0, .int .i64 0, .int .i64 0, .int .i64 0, .int .i64 0, .int .i64 0, .int .i64 0, .slice none 0 0, .slice none 0 0] 27)) w5.heap.size C1 = w6 at *)) | ((with_reducible refine opAt 39 ?_); go_loud (refine wpList_load_row rfl 27 _ rfl w5.heap.size rfl _ _ _ _ hb6 Try.underlying27 rfl hiz.out ?_)) | ((with_reducible refine opAt 40 ?_); go_loud (refine wpList_load_row rfl 27 _ rfl w.heap.size rfl _ _ _ _ (blk_nw hb5 hnw6) Try.underlying27 rfl (by kernel_rfl) ?_)))
    refine (hSM.out w6 hnw6).mono ?_
    rintro e w7 ⟨rfl, hnw7⟩
    have hn7 := (hn5.nw hnw6).nw hnw7
    have hls : ¬ (131072 : Int) < (L.length : Int) := by omega
    have hls2 : decide (131072 < L.length) = false := by simp; omega
    clear haz hiz hcz hSM
    go_upto_region 11 with (fail)
    have hRb := (HB.out.nw hn7)
    go_wp2_with fail
    refine (rread_any B nb cb _ xs w7 hRb hnb (fun g hg => by have := hn7.size; omega)).mono ?_
    rintro e x1 ⟨S2, sc2, D2, dc2, rfl, hs2, hd2, hnx1⟩
    by_cases hlong : xs.length > 131072
    · have hO : rdO xs = (⟨zeroR, [], [], []⟩, 2) := by unfold rdO; rw [if_pos hlong]
      rw [hO]
      unfold Rc.val
      have hlb : (131072 : Int) < (nb : Int) := by omega
      have hlb2 : decide (131072 < nb) = true := by simp; omega
      clear hO
      have haz : Hid ((zeroR.at_ S2 sc2 D2 dc2).cells.all (·.oneCell') = true) := by show _ = _; exact cells_one _
      have hiz : Hid ((Try.prog.info? 27).map (·.size) = some (zeroR.at_ S2 sc2 D2 dc2).cells.size) := by show _ = _; kernel_rfl
      have hcz : Hid ((#[.int .i64 0, .int .i64 0, .int .i64 0, .int .i64 0, .int .i64 0, .int .i64 0, .int .i64 0, .int .i64 0, .int .i64 0, .slice none 0 0, .slice none 0 0] : Array Value).size = (zeroR.at_ S2 sc2 D2 dc2).cells.size) := by show _ = _; rfl
      simp only
      generalize (zeroR.at_ S2 sc2 D2 dc2).cells = C2 at *
      go_wp2_with ((with_reducible refine stAt 27 (.tmp 12) (.tmp 56) ?_); go_loud (refine wpList_store_row rfl 27 (.tmp 12) (.tmp 56) rfl x1.heap.size C2 rfl rfl 27 _ (heap_alloc_new _ _) hiz.out hcz.out haz.out ?_; obtain ⟨hb2x, hnx2⟩ := row_new x1 #[.int .i64 0, .int .i64 0, .int .i64 0, .int .i64 0, .int .i64 0, .int .i64 0, .int .i64 0, .int .i64 0, .int .i64 0, .slice none 0 0, .slice none 0 0] C2 27; generalize World.setRow (World.alloc x1 (.cells #[.int .i64 0, .int .i64 0, .int .i64 0, .int .i64 0, .int .i64 0, .int .i64 0, .int .i64 0, .int .i64 0, .int .i64 0, .slice none 0 0, .slice none 0 0] 27)) x1.heap.size C2 = x2 at *))
      go_ret
      exact ⟨rfl, (hn7.nw hnx1).nw hnx2⟩
    · cases hq : rdR xs with
      | none =>
        have hO : rdO xs = (⟨zeroR, [], [], []⟩, 61) := by unfold rdO; rw [if_neg hlong, hq]
        rw [hO]
        unfold Rc.val
        clear hO
        have haz : Hid ((zeroR.at_ S2 sc2 D2 dc2).cells.all (·.oneCell') = true) := by show _ = _; exact cells_one _
        have hiz : Hid ((Try.prog.info? 27).map (·.size) = some (zeroR.at_ S2 sc2 D2 dc2).cells.size) := by show _ = _; kernel_rfl
        have hcz : Hid ((#[.int .i64 0, .int .i64 0, .int .i64 0, .int .i64 0, .int .i64 0, .int .i64 0, .int .i64 0, .int .i64 0, .int .i64 0, .slice none 0 0, .slice none 0 0] : Array Value).size = (zeroR.at_ S2 sc2 D2 dc2).cells.size) := by show _ = _; rfl
        simp only
        generalize (zeroR.at_ S2 sc2 D2 dc2).cells = C2 at *
        go_wp2_with ((with_reducible refine stAt 27 (.tmp 12) (.tmp 56) ?_); go_loud (refine wpList_store_row rfl 27 (.tmp 12) (.tmp 56) rfl x1.heap.size C2 rfl rfl 27 _ (heap_alloc_new _ _) hiz.out hcz.out haz.out ?_; obtain ⟨hb2x, hnx2⟩ := row_new x1 #[.int .i64 0, .int .i64 0, .int .i64 0, .int .i64 0, .int .i64 0, .int .i64 0, .int .i64 0, .int .i64 0, .int .i64 0, .slice none 0 0, .slice none 0 0] C2 27; generalize World.setRow (World.alloc x1 (.cells #[.int .i64 0, .int .i64 0, .int .i64 0, .int .i64 0, .int .i64 0, .int .i64 0, .int .i64 0, .int .i64 0, .int .i64 0, .slice none 0 0, .slice none 0 0] 27)) x1.heap.size C2 = x2 at *))
        go_ret
        exact ⟨rfl, (hn7.nw hnx1).nw hnx2⟩
      | some s =>
        have hO : rdO xs = (s, 0) := by unfold rdO; rw [if_neg hlong, hq]
        rw [hO] at hs2 hd2 ⊢
        simp only at hs2 hd2 ⊢
        obtain ⟨ho1, ho2, ho3, ho4⟩ := prR_rdR hq
        have hpx : prO s.a s.sp s.dt = xs := by unfold prO; rw [if_pos ho1]; exact ho2
        have hbn := rdR_bound hq
        have haz : Hid ((s.a.at_ S2 sc2 D2 dc2).cells.all (·.oneCell') = true) := by show _ = _; exact cells_one _
        have hiz : Hid ((Try.prog.info? 27).map (·.size) = some (s.a.at_ S2 sc2 D2 dc2).cells.size) := by show _ = _; kernel_rfl
        have hcz : Hid ((#[.int .i64 0, .int .i64 0, .int .i64 0, .int .i64 0, .int .i64 0, .int .i64 0, .int .i64 0, .int .i64 0, .int .i64 0, .slice none 0 0, .slice none 0 0] : Array Value).size = (s.a.at_ S2 sc2 D2 dc2).cells.size) := by show _ = _; rfl
        have HP := Lib.hid (fun W (h : Nw x1 W) => rprint_any (s.a.at_ S2 sc2 D2 dc2) _ _ s.sp s.dt W (own_slice (own_nw hs2 h)) (own_slice (own_nw hd2 h)) (by show s.a.sn ≤ _; omega) (by show s.a.dn ≤ _; omega))
        have hpr : Hid (prO (s.a.at_ S2 sc2 D2 dc2) s.sp s.dt = xs) := hpx
        have hok3 : Hid (okR (s.a.at_ S2 sc2 D2 dc2) s.sp = true) := ho1
        rw [hpr.out, hok3.out] at HP
        have hnz : Nw w x1 := hn7.nw hnx1
        clear hs2 hd2 hpx ho1 ho2 ho3 ho4 hq hO hpr hok3 hbn
        unfold Rc.val at HP ⊢
        unfold errR at HP
        generalize (s.a.at_ S2 sc2 D2 dc2).cells = C2 at *
        go_wp2_with (first | ((with_reducible refine stAt 27 (.tmp 12) (.tmp 56) ?_); go_loud (refine wpList_store_row rfl 27 (.tmp 12) (.tmp 56) rfl x1.heap.size C2 rfl rfl 27 _ (heap_alloc_new _ _) hiz.out hcz.out haz.out ?_; obtain ⟨hb2x, hnx2⟩ := row_new x1 #[.int .i64 0, .int .i64 0, .int .i64 0, .int .i64 0, .int .i64 0, .int .i64 0, .int .i64 0, .int .i64 0, .int .i64 0, .slice none 0 0, .slice none 0 0] C2 27; generalize World.setRow (World.alloc x1 (.cells #[.int .i64 0, .int .i64 0, .int .i64 0, .int .i64 0, .int .i64 0, .int .i64 0, .int .i64 0, .int .i64 0, .int .i64 0, .slice none 0 0, .slice none 0 0] 27)) x1.heap.size C2 = x2 at *)) | ((with_reducible refine opAt 72 ?_); go_loud (refine wpList_load_row rfl 27 _ rfl x1.heap.size rfl _ _ _ _ hb2x Try.underlying27 rfl hiz.out ?_)))
        refine (HP.out x2 hnx2).mono ?_
        rintro e x3 ⟨v14, rfl, ho14, hnx3⟩
        obtain ⟨A14, c14, rfl, _, hr14⟩ := own_read ho14
        go_wp2_with fail
        have hnxz := (hnz.nw hnx2).nw hnx3
        have hxl : xs.length = nb := HXL.out
        rw [hxl] at hr14
        refine (sameb_any _ _ _ _ _ _ _ xs x3 hr14 (HB.out.nw hnxz) (by omega)).mono ?_
        rintro e x4 ⟨rfl, hnx4⟩
        go_wp2_with fail
        go_ret
        exact ⟨rfl, hnxz.nw hnx4⟩

end Go.Proofs.Ytjgnapjhlhdgfaa
