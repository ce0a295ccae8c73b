/- Records: read back: the law's walk. -/
import Derived.Test.YtjgnapjhlhdgfaaQh
import Derived.Test.YtjgnapjhlhdgfaaQj
set_option linter.unusedVariables false
set_option linter.unusedSimpArgs false
namespace Go.Proofs.Ytjgnapjhlhdgfaa
open Go.RowKit

/-- What was read lies between these blocks. -/
structure Got (lo hi : Nat) (W : World) (s : RSt) (S : Option Addr) (sc : Nat) (D : Option Addr) (dc : Nat) : Prop where
  os : W.ownsRow lo 47 2 (.slice S s.a.sn sc) s.a.sn (sps s.sp)
  od : W.ownsRow lo 5 1 (.slice D s.a.dn dc) s.a.dn (bys s.dt)
  hs : ∀ g, (Value.slice S s.a.sn sc).ownBlock = some g → g < hi
  hd : ∀ g, (Value.slice D s.a.dn dc).ownBlock = some g → g < hi
section
variable {lo hi lo' hi' : Nat} {W W' : World} {s : RSt} {S S' : Option Addr} {sc sc' : Nat} {D D' : Option Addr} {dc dc' : Nat}
theorem Got.kp {X : Nat → Prop} (h : Got lo hi W s S sc D dc) (k : Kp X W W') (hX : ∀ g, lo ≤ g → g < hi → ¬ X g) : Got lo hi W' s S sc D dc :=
  ⟨own_kp h.os k fun g hg => hX g (own_ge h.os hg) (h.hs g hg), own_kp h.od k fun g hg => hX g (own_ge h.od hg) (h.hd g hg), h.hs, h.hd⟩
theorem Got.nw (h : Got lo hi W s S sc D dc) (k : Nw W W') : Got lo hi W' s S sc D dc := h.kp k fun _ _ _ e => e
theorem Got.mk' (h1 : W.ownsRow lo 47 2 (.slice S s.a.sn sc) s.a.sn (sps s.sp)) (h2 : W.ownsRow lo 5 1 (.slice D s.a.dn dc) s.a.dn (bys s.dt)) : Got lo W.heap.size W s S sc D dc :=
  ⟨h1, h2, fun g hg => own_lt h1 hg, fun g hg => own_lt h2 hg⟩
theorem same_got (h1 : Got lo hi W s S sc D dc) (h2 : Got lo' hi' W s S' sc' D' dc') (hb : s.a.sn ≤ 65536 ∧ s.a.dn ≤ 65536) :
    Calls Try.prog 13 #[.agg (s.a.at_ S sc D dc).cells, .agg (s.a.at_ S' sc' D' dc').cells] W fun e w' => e = .returned (.bool true) ∧ Nw W w' :=
  same_any (s.a.at_ S sc D dc) S' sc' D' dc' _ _ _ _ s.sp s.dt W (own_slice h1.os) (own_slice h1.od) (own_slice h2.os) (own_slice h2.od) (by show s.a.sn ≤ _; omega) (by show s.a.dn ≤ _; omega)
end
theorem turnB {w : World} {base e g n m cap : Nat} {l : List UInt8} {k : Nat} {a : Int} (h : w.ownsRow base e 1 (.slice (some ⟨g, 0, none⟩) (m + n) cap) (m + n) (bys [] ++ bys l)) (hl : l.length = n) (hk : k < n) (h0 : 0 ≤ a) (h1 : a < 256) :
    (∃ v, w.cell? ⟨g, k, none⟩ = some v) ∧ w.frozen? ⟨g, k, none⟩ = false ∧
      Hid ((w.setCell ⟨g, k, none⟩ (.int .u8 a)).ownsRow base e 1 (.slice (some ⟨g, 0, none⟩) (m + n) cap) (m + n) (bys (l.set k (UInt8.ofNat a.toNat))) ∧ Kp (fun i => i = g) w (w.setCell ⟨g, k, none⟩ (.int .u8 a))) := by
  have hb : (.int .u8 a : Value) = bv (UInt8.ofNat a.toNat) := bv_mk h0 h1
  have hst := h.stored k (bv (UInt8.ofNat a.toNat))
  have e1 : bys [] ++ bys l = bys l := rfl
  rw [e1] at h hst
  rw [bys_set, ← hb] at hst
  exact ⟨⟨_, own_at h (List.getElem?_eq_getElem (by rw [bys_len]; omega))⟩, h.frozenAt _, hst.1, (Kp.of_grown hst.2).mono fun i _ e => by injection e⟩
theorem rdO_bound (xs : List UInt8) : (rdO xs).1.a.sn ≤ 65536 ∧ (rdO xs).1.a.dn ≤ 65536 := by
  unfold rdO
  split
  · exact ⟨Nat.zero_le _, Nat.zero_le _⟩
  · cases hq : rdR xs with
    | none => exact ⟨Nat.zero_le _, Nat.zero_le _⟩
    | some s => exact rdR_bound hq

set_option maxRecDepth 100000 in
set_option maxHeartbeats 25600000 in
theorem law_RecordReads (B : Option Addr) (nb cb : Nat) (xs : List UInt8) (at_ tb : Int) (w : World) (hrb : Rd w (fun _ => True) 1 B nb (bys xs)) (hnb : nb ≤ cb) (hcb : cb * 1 ≤ 140737488351232)
    (ha0 : -9223372036854775808 ≤ at_) (ha1 : at_ ≤ 9223372036854775807) (ht0 : 0 ≤ tb) (ht1 : tb < 256) :
    Calls Try.prog 4 #[.slice B nb cb, .int .i64 at_, .int .u8 tb] w fun e w' => e = .returned (.bool true) ∧ Nw w w' := by
  have hxl : xs.length = nb := by have := hrb.len; rwa [bys_len] at this
  have HB := Lib.hid (hrb.inb (by omega))
  have HXL := Lib.hid hxl
  have hbd := rdO_bound xs
  obtain ⟨O, hO⟩ : ∃ O, O = rdO xs := ⟨_, rfl⟩
  rw [← hO] at hbd
  have HO := Lib.hid hO
  have eb := Try.elU8
  have HZ : Hid (∀ (a : Rc) (S : Option Addr) (sc : Nat) (D : Option Addr) (dc : Nat), (Try.prog.info? 27).map (·.size) = some (a.at_ S sc D dc).cells.size) := fun _ _ _ _ _ => by kernel_rfl
  clear hrb hxl hO
  go_enter Try.func4, Try.ntmps4
  go_wp2_with fail
  refine (awake_any _).mono ?_
  rintro e w1 ⟨rfl, hnw1⟩
  go_wp2_with fail
  have hrd1 := refread_any B nb cb _ xs w1 (HB.out.nw hnw1) hnb (fun g hg => by have := hnw1.size; omega)
  rw [← HO.out] at hrd1
  refine hrd1.mono ?_
  rintro e w2 ⟨S0, sc0, D0, dc0, rfl, hs0, hd0, hnw2⟩
  have HG0 := Lib.hid (Got.mk' hs0 hd0)
  have hn2 := hnw1.nw hnw2
  clear hrd1 hs0 hd0
  obtain ⟨s, ee⟩ := O
  simp only at *
  unfold Rc.val
  go_upto_region 3 with ((with_reducible refine stAt 27 (.tmp 8) (.tmp 33) ?_); (refine wpList_store_row rfl 27 (.tmp 8) (.tmp 33) rfl w2.heap.size (s.a.at_ S0 sc0 D0 dc0).cells rfl rfl 27 _ (heap_alloc_new _ _) (HZ.out _ _ _ _ _) (by rfl) (cells_one _) ?_; obtain ⟨hb8, hnw3⟩ := row_new w2 #[.int .i64 0, .int .i64 0, .int .i64 0, .int .i64 0, .int .i64 0, .int .i64 0, .int .i64 0, .int .i64 0, .int .i64 0, .slice none 0 0, .slice none 0 0] (s.a.at_ S0 sc0 D0 dc0).cells 27; generalize World.setRow (World.alloc w2 (.cells #[.int .i64 0, .int .i64 0, .int .i64 0, .int .i64 0, .int .i64 0, .int .i64 0, .int .i64 0, .int .i64 0, .int .i64 0, .slice none 0 0, .slice none 0 0] 27)) w2.heap.size (s.a.at_ S0 sc0 D0 dc0).cells = w3 at *))
  have hn3 := hn2.nw hnw3
  have hnil : w3.ownsRow w3.heap.size 5 1 (.slice none 0 0) 0 (bys []) := World.ownsRow_nil _ _ _ _
  have hHB3 := HB.out.nw hn3
  go_upto_region 5 with (at_builtin; (refine wpList_appv _ rfl (.tmp 35) (.tmp 36) 25 5 rfl eb w3.heap.size _ _ _ hnil rfl _ B _ cb _ hHB3 rfl (bys_one _) (by simp only [maxLen]; omega) (by omega) (Nat.le_refl _) ?_; intro v4 w4 ho4 hk4 ha4))
  have hnw4 : Nw w3 w4 := hk4.mono fun i _ e => by simp [Value.ownBlock] at e
  rw [Nat.zero_add] at ho4
  have hs4 := hnw4.size
  go_upto_region 6 with (at_builtin; (refine wpList_app1 w4 #[.int .u8 177, .int .u8 178] _ rfl (.tmp 38) (.tmp 39) 25 5 rfl eb w3.heap.size _ _ _ ho4 rfl 2 2 rfl rfl (by simp [Value.oneCell']) (by simp only [maxLen]; omega) (by omega) (by omega) ?_; intro v5 w5 ho5 hk5 ha5))
  have ho5' : w5.ownsRow w3.heap.size 5 1 v5 (nb + 2) (bys (xs ++ [177, 178])) := by rw [bys_app]; exact ho5
  have hnw5 : Nw w3 w5 := Nw.row hnw4 ho4 hk5
  clear ho5 ho4 hnil hHB3
  obtain ⟨A5, c5, rfl, hc5, _⟩ := own_read ho5'
  obtain ⟨g, rfl⟩ := own_some ho5' (by omega)
  have hg3 : w3.heap.size ≤ g := own_ge ho5' rfl
  have hg5 : g < w5.heap.size := own_lt ho5' rfl
  have HROW := Lib.hid ho5'
  have hown5 : w5.ownsRow w3.heap.size 5 1 (.slice (some ⟨g, 0, none⟩) nb c5) nb (bys xs) := by
    have := own_take ho5' (k := nb) (by omega) (by simp)
    rwa [Nat.mul_one, ← bys_take, ← HXL.out, List.take_left, HXL.out] at this
  have HOWN := Lib.hid hown5
  have hn5 := hn3.nw hnw5
  have hnc5 : (nb : Int) ≤ (c5 : Int) := by omega
  clear ho5'
  go_wp2_with fail
  have hrd := rread_any (some ⟨g, 0, none⟩) nb c5 _ xs w5 (own_slice hown5) (by omega) (fun g' hg' => own_lt hown5 hg')
  rw [← HO.out] at hrd
  refine hrd.mono ?_
  rintro e w6 ⟨S1, sc1, D1, dc1, rfl, hs1, hd1, hnw6⟩
  have HG1 := Lib.hid (Got.mk' hs1 hd1)
  clear hrd hs1 hd1
  simp only at *
  unfold Rc.val
  go_upto_region 8 with ((with_reducible refine stAt 27 (.tmp 12) (.tmp 48) ?_); (refine wpList_store_row rfl 27 (.tmp 12) (.tmp 48) rfl w6.heap.size (s.a.at_ S1 sc1 D1 dc1).cells rfl rfl 27 _ (heap_alloc_new _ _) (HZ.out _ _ _ _ _) (by rfl) (cells_one _) ?_; obtain ⟨hb12, hnw7⟩ := row_new w6 #[.int .i64 0, .int .i64 0, .int .i64 0, .int .i64 0, .int .i64 0, .int .i64 0, .int .i64 0, .int .i64 0, .int .i64 0, .slice none 0 0, .slice none 0 0] (s.a.at_ S1 sc1 D1 dc1).cells 27; generalize World.setRow (World.alloc w6 (.cells #[.int .i64 0, .int .i64 0, .int .i64 0, .int .i64 0, .int .i64 0, .int .i64 0, .int .i64 0, .int .i64 0, .int .i64 0, .slice none 0 0, .slice none 0 0] 27)) w6.heap.size (s.a.at_ S1 sc1 D1 dc1).cells = w7 at *))
  have hn67 := hnw6.nw hnw7
  have hown7 := own_nw hown5 hn67
  go_wp2_with fail
  have hrd := rread_any (some ⟨g, 0, none⟩) nb c5 _ xs w7 (own_slice hown7) (by omega) (fun g' hg' => own_lt hown7 hg')
  rw [← HO.out] at hrd
  refine hrd.mono ?_
  rintro e w8 ⟨S2, sc2, D2, dc2, rfl, hs2, hd2, hnw8⟩
  have HG2 := Lib.hid (Got.mk' hs2 hd2)
  clear hrd hs2 hd2
  simp only at *
  unfold Rc.val
  go_upto_region 9 with ((with_reducible refine stAt 27 (.tmp 14) (.tmp 53) ?_); (refine wpList_store_row rfl 27 (.tmp 14) (.tmp 53) rfl w8.heap.size (s.a.at_ S2 sc2 D2 dc2).cells rfl rfl 27 _ (heap_alloc_new _ _) (HZ.out _ _ _ _ _) (by rfl) (cells_one _) ?_; obtain ⟨hb14, hnw9⟩ := row_new w8 #[.int .i64 0, .int .i64 0, .int .i64 0, .int .i64 0, .int .i64 0, .int .i64 0, .int .i64 0, .int .i64 0, .int .i64 0, .slice none 0 0, .slice none 0 0] (s.a.at_ S2 sc2 D2 dc2).cells 27; generalize World.setRow (World.alloc w8 (.cells #[.int .i64 0, .int .i64 0, .int .i64 0, .int .i64 0, .int .i64 0, .int .i64 0, .int .i64 0, .int .i64 0, .int .i64 0, .slice none 0 0, .slice none 0 0] 27)) w8.heap.size (s.a.at_ S2 sc2 D2 dc2).cells = w9 at *))
  have hn79 := hnw8.nw hnw9
  have hn59 := hn67.nw hn79
  have hn39 := hnw5.nw hn59
  have G0 := HG0.out.nw (hnw3.nw hn39)
  have G1 := HG1.out.nw (hnw7.nw hn79)
  have G2 := HG2.out.nw hnw9
  have b8 := blk_nw hb8 hn39
  have b12 := blk_nw hb12 hn79
  have hs23 := hnw3.size
  have hs39 := hn39.size
  have hs56 := hnw6.size
  have hs67 := hnw7.size
  have hs78 := hnw8.size
  have hs89 := hnw9.size
  have hown9 := own_nw hown7 hn79
  have hlt23 : w2.heap.size < w3.heap.size := (Array.getElem?_eq_some_iff.1 hb8).1
  have hlt67 : w6.heap.size < w7.heap.size := (Array.getElem?_eq_some_iff.1 hb12).1
  have hlt89 : w8.heap.size < w9.heap.size := (Array.getElem?_eq_some_iff.1 hb14).1
  clear hb8 hb12 hown5 hown7
  go_wp2_with (first | ((with_reducible refine opAt 55 ?_); (refine wpList_load_row rfl 27 _ rfl w6.heap.size rfl _ _ _ _ b12 Try.underlying27 rfl (HZ.out _ _ _ _ _) ?_)) | ((with_reducible refine opAt 56 ?_); (refine wpList_load_row rfl 27 _ rfl w2.heap.size rfl _ _ _ _ b8 Try.underlying27 rfl (HZ.out _ _ _ _ _) ?_)))
  refine (same_got G1 G0 hbd).mono ?_
  rintro e w10 ⟨rfl, hnw10⟩
  have G0 := G0.nw hnw10
  have G1 := G1.nw hnw10
  have G2 := G2.nw hnw10
  have b8 := blk_nw b8 hnw10
  have b12 := blk_nw b12 hnw10
  have b14 := blk_nw hb14 hnw10
  clear hb14
  go_wp2_with (first | ((with_reducible refine opAt 58 ?_); (refine wpList_load_row rfl 27 _ rfl w8.heap.size rfl _ _ _ _ b14 Try.underlying27 rfl (HZ.out _ _ _ _ _) ?_)) | ((with_reducible refine opAt 59 ?_); (refine wpList_load_row rfl 27 _ rfl w2.heap.size rfl _ _ _ _ b8 Try.underlying27 rfl (HZ.out _ _ _ _ _) ?_)))
  refine (same_got G2 G0 hbd).mono ?_
  rintro e w11 ⟨rfl, hnw11⟩
  have hown11 := own_nw hown9 (hnw10.nw hnw11)
  have hn11 := (hn5.nw hn59).nw (hnw10.nw hnw11)
  go_wp2_with fail
  refine (sameb_any _ _ nb _ _ _ _ xs w11 (own_slice hown11) (HB.out.nw hn11) (by omega)).mono ?_
  rintro e w12 ⟨rfl, hnw12⟩
  have hn912 := (hnw10.nw hnw11).nw hnw12
  have hrow := own_nw HROW.out (hn59.nw hn912)
  have hown12 := own_nw hown11 hnw12
  have G0 := G0.nw (hnw11.nw hnw12)
  have G1 := G1.nw (hnw11.nw hnw12)
  have G2 := G2.nw (hnw11.nw hnw12)
  have b8 := blk_nw b8 (hnw11.nw hnw12)
  have b12 := blk_nw b12 (hnw11.nw hnw12)
  have b14 := blk_nw b14 (hnw11.nw hnw12)
  have hm1 := own_atn hrow (k := nb) (v := .int .u8 177) (by rw [bys_app, ← HXL.out, ← bys_len xs, at_app0]; rfl)
  have hm2 := own_atn hrow (k := nb + 1) (v := .int .u8 178) (by rw [bys_app, ← HXL.out, ← bys_len xs, at_app]; rfl)
  have hn312 := hn39.nw hn912
  have hn12 := hn3.nw hn312
  have hee : (ee != ee) = false := by simp
  have hs912 := hn912.size
  clear hrow hown11 hown9 HG0 HG1 HG2 hnw1 hnw2 hn2 hnw4 hk4 ha4 hk5 ha5 hs4
  go_upto_region 14 with (fail)
  by_cases hz : 0 < nb ∧ 0 ≤ at_
  · obtain ⟨hz1, hz2⟩ := hz
    have hz4 : (0 : Int) < (nb : Int) := by omega
    have hz3 : ((nb : Int) == 0) = false := by rw [beq_eq_false_iff_ne]; omega
    have hz5 : ¬ at_ < 0 := by omega
    obtain ⟨k, hk⟩ : ∃ k : Nat, (k : Int) = at_ % (nb : Int) := ⟨(at_ % (nb : Int)).toNat, by
      have := Int.emod_nonneg at_ (b := (nb : Int)) (by omega)
      omega⟩
    have hklt : k < nb := by
      have := Int.emod_lt_of_pos at_ hz4
      omega
    have h0 : w12.ownsRow w3.heap.size 5 1 (.slice (some ⟨g, 0, none⟩) (0 + nb) c5) (0 + nb) (bys [] ++ bys xs) := by rw [Nat.zero_add]; exact hown12
    obtain ⟨⟨vv, hcl⟩, hfz, HST⟩ := turnB (k := k) (a := tb) h0 HXL.out hklt ht0 (by omega)
    have how := HST.out.1
    have hks := HST.out.2
    rw [Nat.zero_add] at how
    have G0 := G0.kp hks (fun i h1 h2 e => by omega)
    have G1 := G1.kp hks (fun i h1 h2 e => by omega)
    have G2 := G2.kp hks (fun i h1 h2 e => by omega)
    have b8 := blk_kp b8 hks (by omega)
    have b12 := blk_kp b12 hks (by omega)
    have b14 := blk_kp b14 hks (by omega)
    have hnz : Nw w (w12.setCell ⟨g, k, none⟩ (.int .u8 tb)) := hn12.trans hks fun i hi e => by have := hn3.size; omega
    have hyl : (xs.set k (UInt8.ofNat tb.toNat)).length = nb := by rw [List.length_set]; exact HXL.out
    have hsz13 : (w12.setCell ⟨g, k, none⟩ (.int .u8 tb)).heap.size = w12.heap.size := by simp
    generalize xs.set k (UInt8.ofNat tb.toNat) = ys at *
    have hkk := hk.symm
    have hk0 : (0 : Int) ≤ (k : Int) := by omega
    have hk1 : (k : Int) < (nb : Int) := by omega
    clear hks HST hn12 hown12 h0 hm1 hm2 hn312 hk
    go_upto_region 16 with (fail)
    generalize w12.setCell ⟨g, k, none⟩ (.int .u8 tb) = wz at *
    clear hcl hfz hkk
    go_wp2_with (first | ((with_reducible refine opAt 119 ?_); (refine wpList_load_row rfl 27 _ rfl w6.heap.size rfl _ _ _ _ b12 Try.underlying27 rfl (HZ.out _ _ _ _ _) ?_)) | ((with_reducible refine opAt 120 ?_); (refine wpList_load_row rfl 27 _ rfl w2.heap.size rfl _ _ _ _ b8 Try.underlying27 rfl (HZ.out _ _ _ _ _) ?_)))
    refine (same_got G1 G0 hbd).mono ?_
    rintro e x1 ⟨rfl, hx1⟩
    have how1 := own_nw how hx1
    have hrd1 := own_slice how1
    have hnil : x1.ownsRow x1.heap.size 5 1 (.slice none 0 0) 0 (bys []) := World.ownsRow_nil _ _ _ _
    go_upto_region 19 with (at_builtin; (refine wpList_appv _ rfl (.tmp 122) (.tmp 123) 25 5 rfl eb x1.heap.size _ _ _ hnil rfl _ _ _ c5 _ hrd1 rfl (bys_one _) (by simp only [maxLen]; omega) (by omega) (Nat.le_refl _) ?_; intro v20 x2 ho20 hk20 ha20))
    have hx2 : Nw x1 x2 := hk20.mono fun i _ e => by simp [Value.ownBlock] at e
    rw [Nat.zero_add] at ho20
    have ho20' : x2.ownsRow x1.heap.size 5 1 v20 nb (bys ys) := ho20
    obtain ⟨A20, c20, rfl, hc20, _⟩ := own_read ho20'
    clear ho20 hnil hrd1 hk20 ha20
    obtain ⟨O2, hO2⟩ : ∃ O2, O2 = rdO ys := ⟨_, rfl⟩
    have hbd2 := rdO_bound ys
    rw [← hO2] at hbd2
    have HO2 := Lib.hid hO2
    clear hO2
    go_wp2_with fail
    have hrd := refread_any A20 nb c20 _ ys x2 (own_slice ho20') hc20 (fun g' hg' => own_lt ho20' hg')
    rw [← HO2.out] at hrd
    refine hrd.mono ?_
    rintro e x3 ⟨S3, sc3, D3, dc3, rfl, hs3, hd3, hx3⟩
    have G3 := Got.mk' hs3 hd3
    clear hrd hs3 hd3
    obtain ⟨s2, e2⟩ := O2
    simp only at *
    unfold Rc.val
    go_upto_region 20 with ((with_reducible refine stAt 27 (.tmp 21) (.tmp 128) ?_); (refine wpList_store_row rfl 27 (.tmp 21) (.tmp 128) rfl x3.heap.size (s2.a.at_ S3 sc3 D3 dc3).cells rfl rfl 27 _ (heap_alloc_new _ _) (HZ.out _ _ _ _ _) (by rfl) (cells_one _) ?_; obtain ⟨b21, hx4⟩ := row_new x3 #[.int .i64 0, .int .i64 0, .int .i64 0, .int .i64 0, .int .i64 0, .int .i64 0, .int .i64 0, .int .i64 0, .int .i64 0, .slice none 0 0, .slice none 0 0] (s2.a.at_ S3 sc3 D3 dc3).cells 27; generalize World.setRow (World.alloc x3 (.cells #[.int .i64 0, .int .i64 0, .int .i64 0, .int .i64 0, .int .i64 0, .int .i64 0, .int .i64 0, .int .i64 0, .int .i64 0, .slice none 0 0, .slice none 0 0] 27)) x3.heap.size (s2.a.at_ S3 sc3 D3 dc3).cells = x4 at *))
    have how4 := own_nw how1 ((hx2.nw hx3).nw hx4)
    go_wp2_with fail
    have hrd := rread_any (some ⟨g, 0, none⟩) nb c5 _ ys x4 (own_slice how4) (by omega) (fun g' hg' => own_lt how4 hg')
    rw [← HO2.out] at hrd
    refine hrd.mono ?_
    rintro e x5 ⟨S4, sc4, D4, dc4, rfl, hs4, hd4, hx5⟩
    have G4 := Got.mk' hs4 hd4
    clear hrd hs4 hd4
    simp only at *
    unfold Rc.val
    go_upto_region 21 with ((with_reducible refine stAt 27 (.tmp 23) (.tmp 133) ?_); (refine wpList_store_row rfl 27 (.tmp 23) (.tmp 133) rfl x5.heap.size (s2.a.at_ S4 sc4 D4 dc4).cells rfl rfl 27 _ (heap_alloc_new _ _) (HZ.out _ _ _ _ _) (by rfl) (cells_one _) ?_; obtain ⟨b23, hx6⟩ := row_new x5 #[.int .i64 0, .int .i64 0, .int .i64 0, .int .i64 0, .int .i64 0, .int .i64 0, .int .i64 0, .int .i64 0, .int .i64 0, .slice none 0 0, .slice none 0 0] (s2.a.at_ S4 sc4 D4 dc4).cells 27; generalize World.setRow (World.alloc x5 (.cells #[.int .i64 0, .int .i64 0, .int .i64 0, .int .i64 0, .int .i64 0, .int .i64 0, .int .i64 0, .int .i64 0, .int .i64 0, .slice none 0 0, .slice none 0 0] 27)) x5.heap.size (s2.a.at_ S4 sc4 D4 dc4).cells = x6 at *))
    have hx46 := hx5.nw hx6
    have b21 := blk_nw b21 hx46
    have G3 := G3.nw (hx4.nw hx46)
    have G4 := G4.nw hx6
    go_wp2_with (first | ((with_reducible refine opAt 135 ?_); (refine wpList_load_row rfl 27 _ rfl x5.heap.size rfl _ _ _ _ b23 Try.underlying27 rfl (HZ.out _ _ _ _ _) ?_)) | ((with_reducible refine opAt 136 ?_); (refine wpList_load_row rfl 27 _ rfl x3.heap.size rfl _ _ _ _ b21 Try.underlying27 rfl (HZ.out _ _ _ _ _) ?_)))
    refine (same_got G4 G3 hbd2).mono ?_
    rintro e x7 ⟨rfl, hx7⟩
    have hxz7 := (((hx1.nw hx2).nw hx3).nw hx4).nw (hx46.nw hx7)
    have b8 := blk_nw b8 hxz7
    have b12 := blk_nw b12 hxz7
    have b14 := blk_nw b14 hxz7
    have b23 := blk_nw b23 hx7
    have b12l : x7.heap[w6.heap.size]? = some (.cells #[.int .i64 s.a.k, .int .i64 s.a.o, .int .i64 s.a.n, .int .i64 s.a.p, .int .i64 s.a.v, .int .i64 s.a.f, .int .i64 s.a.r, .int .i64 s.a.z, .int .i64 s.a.h, .slice S1 s.a.sn sc1, .slice D1 s.a.dn dc1] 27 (0, 0)) := b12
    have b23l : x7.heap[x5.heap.size]? = some (.cells #[.int .i64 s2.a.k, .int .i64 s2.a.o, .int .i64 s2.a.n, .int .i64 s2.a.p, .int .i64 s2.a.v, .int .i64 s2.a.f, .int .i64 s2.a.r, .int .i64 s2.a.z, .int .i64 s2.a.h, .slice S4 s2.a.sn sc4, .slice D4 s2.a.dn dc4] 27 (0, 0)) := b23
    clear b12 b23
    go_wp2_with (first | ((with_reducible refine opAt 138 ?_); (refine wpList_load_row rfl 27 _ rfl w6.heap.size rfl _ _ _ _ b12l Try.underlying27 rfl (by kernel_rfl) ?_)) | ((with_reducible refine opAt 139 ?_); (refine wpList_load_row rfl 27 _ rfl x5.heap.size rfl _ _ _ _ b23l Try.underlying27 rfl (by kernel_rfl) ?_)))
    have hz1' := hx1.size
    have hz2' := hx2.size
    have hz3' := hx3.size
    have hz4' := hx4.size
    have hz5' := hx5.size
    have hz6' := hx6.size
    have hz7' := hx7.size
    have G0 := G0.nw hxz7
    have G1 := G1.nw hxz7
    have G2 := G2.nw hxz7
    have G4 := G4.nw hx7
    have how7 := own_nw how hxz7
    have ho27 := own_nw ho20' (((hx3.nw hx4).nw hx46).nw hx7)
    have hlit := own_lit (e := 27) (size := 11) (base := x7.heap.size) x7 #[.int .i64 s.a.k, .int .i64 s.a.o, .int .i64 s.a.n, .int .i64 s.a.p, .int .i64 s.a.v, .int .i64 s.a.f, .int .i64 s.a.r, .int .i64 s.a.z, .int .i64 s.a.h, .slice S1 s.a.sn sc1, .slice D1 s.a.dn dc1, .int .i64 s2.a.k, .int .i64 s2.a.o, .int .i64 s2.a.n, .int .i64 s2.a.p, .int .i64 s2.a.v, .int .i64 s2.a.f, .int .i64 s2.a.r, .int .i64 s2.a.z, .int .i64 s2.a.h, .slice S4 s2.a.sn sc4, .slice D4 s2.a.dn dc4] 2 (by simp [maxLen]) rfl (Nat.le_refl _)
    have hx8 : Nw x7 (x7.alloc (.cells #[.int .i64 s.a.k, .int .i64 s.a.o, .int .i64 s.a.n, .int .i64 s.a.p, .int .i64 s.a.v, .int .i64 s.a.f, .int .i64 s.a.r, .int .i64 s.a.z, .int .i64 s.a.h, .slice S1 s.a.sn sc1, .slice D1 s.a.dn dc1, .int .i64 s2.a.k, .int .i64 s2.a.o, .int .i64 s2.a.n, .int .i64 s2.a.p, .int .i64 s2.a.v, .int .i64 s2.a.f, .int .i64 s2.a.r, .int .i64 s2.a.z, .int .i64 s2.a.h, .slice S4 s2.a.sn sc4, .slice D4 s2.a.dn dc4] 27)) := (Kp.refl _ _).alloc _
    have hz8' : (x7.alloc (.cells #[.int .i64 s.a.k, .int .i64 s.a.o, .int .i64 s.a.n, .int .i64 s.a.p, .int .i64 s.a.v, .int .i64 s.a.f, .int .i64 s.a.r, .int .i64 s.a.z, .int .i64 s.a.h, .slice S1 s.a.sn sc1, .slice D1 s.a.dn dc1, .int .i64 s2.a.k, .int .i64 s2.a.o, .int .i64 s2.a.n, .int .i64 s2.a.p, .int .i64 s2.a.v, .int .i64 s2.a.f, .int .i64 s2.a.r, .int .i64 s2.a.z, .int .i64 s2.a.h, .slice S4 s2.a.sn sc4, .slice D4 s2.a.dn dc4] 27)).heap.size = x7.heap.size + 1 := by simp
    generalize x7.alloc (.cells #[.int .i64 s.a.k, .int .i64 s.a.o, .int .i64 s.a.n, .int .i64 s.a.p, .int .i64 s.a.v, .int .i64 s.a.f, .int .i64 s.a.r, .int .i64 s.a.z, .int .i64 s.a.h, .slice S1 s.a.sn sc1, .slice D1 s.a.dn dc1, .int .i64 s2.a.k, .int .i64 s2.a.o, .int .i64 s2.a.n, .int .i64 s2.a.p, .int .i64 s2.a.v, .int .i64 s2.a.f, .int .i64 s2.a.r, .int .i64 s2.a.z, .int .i64 s2.a.h, .slice S4 s2.a.sn sc4, .slice D4 s2.a.dn dc4] 27) = x8 at *
    have hRR : Rd x8 (fun k => (Value.slice (some ⟨x7.heap.size, 0, none⟩) 2 2).ownBlock = some k) 11 (some ⟨x7.heap.size, 0, none⟩) 2 (rcs [s.a.at_ S1 sc1 D1 dc1, s2.a.at_ S4 sc4 D4 dc4]) := Rd.of_own hlit
    have G1' := G1.nw hx8
    have G4' := G4.nw hx8
    have hTD : ∀ i, Sof ([s.a.at_ S1 sc1 D1 dc1, s2.a.at_ S4 sc4 D4 dc4].map Rc.vD) i → (w5.heap.size ≤ i ∧ i < w6.heap.size) ∨ (x4.heap.size ≤ i ∧ i < x5.heap.size) := fun i hi => by
      obtain ⟨v, hv, hvi⟩ := hi
      simp only [List.map_cons, List.map_nil, List.mem_cons, List.not_mem_nil, or_false] at hv
      rcases hv with rfl | rfl
      · exact .inl ⟨own_ge G1.od hvi, G1.hd i hvi⟩
      · exact .inr ⟨own_ge G4.od hvi, G4.hd i hvi⟩
    have hTS : ∀ i, Sof ([s.a.at_ S1 sc1 D1 dc1, s2.a.at_ S4 sc4 D4 dc4].map Rc.vS) i → (w5.heap.size ≤ i ∧ i < w6.heap.size) ∨ (x4.heap.size ≤ i ∧ i < x5.heap.size) := fun i hi => by
      obtain ⟨v, hv, hvi⟩ := hi
      simp only [List.map_cons, List.map_nil, List.mem_cons, List.not_mem_nil, or_false] at hv
      rcases hv with rfl | rfl
      · exact .inl ⟨own_ge G1.os hvi, G1.hs i hvi⟩
      · exact .inr ⟨own_ge G4.os hvi, G4.hs i hvi⟩
    have hOW := rowned_any (some ⟨x7.heap.size, 0, none⟩) 2 2 _ [s.a.at_ S1 sc1 D1 dc1, s2.a.at_ S4 sc4 D4 dc4] x8 hRR (by omega)
      ((Sep.nil.snoc (v := (s.a.at_ S1 sc1 D1 dc1).vD) (fun u hu => by simp at hu)).snoc (v := (s2.a.at_ S4 sc4 D4 dc4).vD) (fun u hu i hi e => by
        simp only [List.nil_append, List.mem_singleton] at hu
        subst hu
        have h1 := G1.hd i hi
        have h2 := own_ge G4.od e
        omega))
      ((Sep.nil.snoc (v := (s.a.at_ S1 sc1 D1 dc1).vS) (fun u hu => by simp at hu)).snoc (v := (s2.a.at_ S4 sc4 D4 dc4).vS) (fun u hu i hi e => by
        simp only [List.nil_append, List.mem_singleton] at hu
        subst hu
        have h1 := G1.hs i hi
        have h2 := own_ge G4.os e
        omega))
      (fun a ha => by
        simp only [List.mem_cons, List.not_mem_nil, or_false] at ha
        rcases ha with rfl | rfl
        · exact ⟨_, own_base G1'.od (fun _ _ => Nat.zero_le _)⟩
        · exact ⟨_, own_base G4'.od (fun _ _ => Nat.zero_le _)⟩)
      (fun a ha => by
        simp only [List.mem_cons, List.not_mem_nil, or_false] at ha
        rcases ha with rfl | rfl
        · exact ⟨_, own_base G1'.os (fun _ _ => Nat.zero_le _)⟩
        · exact ⟨_, own_base G4'.os (fun _ _ => Nat.zero_le _)⟩)
      (fun a ha => by
        simp only [List.mem_cons, List.not_mem_nil, or_false] at ha
        rcases ha with rfl | rfl
        · exact ⟨by show s.a.dn ≤ _; omega, by show s.a.sn ≤ _; omega⟩
        · exact ⟨by show s2.a.dn ≤ _; omega, by show s2.a.sn ≤ _; omega⟩)
      (fun i hi h => by
        have e : x7.heap.size = i := by simpa [Value.ownBlock] using hi
        rcases h with h | h
        · have := hTD i h
          omega
        · have := hTS i h
          omega)
    refine hOW.mono ?_
    rintro e x9 ⟨rfl, hk9⟩
    have hT9 : ∀ i, (Sof ([s.a.at_ S1 sc1 D1 dc1, s2.a.at_ S4 sc4 D4 dc4].map Rc.vD) i ∨ Sof ([s.a.at_ S1 sc1 D1 dc1, s2.a.at_ S4 sc4 D4 dc4].map Rc.vS) i) → (w5.heap.size ≤ i ∧ i < w6.heap.size) ∨ (x4.heap.size ≤ i ∧ i < x5.heap.size) := fun i hi => hi.elim (hTD i) (hTS i)
    have b8 := blk_kp (blk_nw b8 hx8) hk9 (fun h => by have := hT9 _ h; omega)
    have b14 := blk_kp (blk_nw b14 hx8) hk9 (fun h => by have := hT9 _ h; omega)
    have G0 := (G0.nw hx8).kp hk9 (fun i h1 h2 h => by have := hT9 _ h; omega)
    have G2 := (G2.nw hx8).kp hk9 (fun i h1 h2 h => by have := hT9 _ h; omega)
    have how9 := own_kp (own_nw how7 hx8) hk9 (fun i hi h => by have := hT9 _ h; have e : g = i := (by simpa [Value.ownBlock] using hi); omega)
    have ho29 := own_kp (own_nw ho27 hx8) hk9 (fun i hi h => by have := hT9 _ h; have h1 := own_ge ho20' hi; have h2 := own_lt ho20' hi; omega)
    have hn9 : Nw w x9 := ((hnz.nw hxz7).nw hx8).trans hk9 fun i hi h => by have := hT9 _ h; have := hn5.size; have := hnz.size; omega
    clear hk9 hOW hT9 hTD hTS G1 G4 G1' G4' hRR hlit b12l b23l G3
    go_wp2_with (first | ((with_reducible refine opAt 142 ?_); (refine wpList_load_row rfl 27 _ rfl w8.heap.size rfl _ _ _ _ b14 Try.underlying27 rfl (HZ.out _ _ _ _ _) ?_)) | ((with_reducible refine opAt 143 ?_); (refine wpList_load_row rfl 27 _ rfl w2.heap.size rfl _ _ _ _ b8 Try.underlying27 rfl (HZ.out _ _ _ _ _) ?_)))
    refine (same_got G2 G0 hbd).mono ?_
    rintro e y1 ⟨rfl, hy1⟩
    go_wp2_with fail
    refine (sameb_any _ _ nb _ _ _ _ ys y1 (own_slice (own_nw how9 hy1)) (own_slice (own_nw ho29 hy1)) (by omega)).mono ?_
    rintro e y2 ⟨rfl, hy2⟩
    have he2 : (e2 == e2) = true := by simp
    go_wp2_with fail
    go_ret
    exact ⟨rfl, (hn9.nw hy1).nw hy2⟩
  · have hyl := HXL.out
    have hnz := hn12
    have how := hown12
    have hsz13 : w12.heap.size = w12.heap.size := rfl
    have hzz : ¬ (0 < nb ∧ 0 ≤ at_) := hz
    clear hm1 hm2 hn312 hn12 hown12
    by_cases hnb0 : nb = 0
    · have hz6 : decide (0 < nb) = false := by simp; omega
      clear hz hzz hnb0
      go_wp2_with (first | ((with_reducible refine opAt 119 ?_); (refine wpList_load_row rfl 27 _ rfl w6.heap.size rfl _ _ _ _ b12 Try.underlying27 rfl (HZ.out _ _ _ _ _) ?_)) | ((with_reducible refine opAt 120 ?_); (refine wpList_load_row rfl 27 _ rfl w2.heap.size rfl _ _ _ _ b8 Try.underlying27 rfl (HZ.out _ _ _ _ _) ?_)))
      refine (same_got G1 G0 hbd).mono ?_
      rintro e x1 ⟨rfl, hx1⟩
      have how1 := own_nw how hx1
      have hrd1 := own_slice how1
      have hnil : x1.ownsRow x1.heap.size 5 1 (.slice none 0 0) 0 (bys []) := World.ownsRow_nil _ _ _ _
      go_upto_region 19 with (at_builtin; (refine wpList_appv _ rfl (.tmp 122) (.tmp 123) 25 5 rfl eb x1.heap.size _ _ _ hnil rfl _ _ _ c5 _ hrd1 rfl (bys_one _) (by simp only [maxLen]; omega) (by omega) (Nat.le_refl _) ?_; intro v20 x2 ho20 hk20 ha20))
      have hx2 : Nw x1 x2 := hk20.mono fun i _ e => by simp [Value.ownBlock] at e
      rw [Nat.zero_add] at ho20
      have ho20' : x2.ownsRow x1.heap.size 5 1 v20 nb (bys xs) := ho20
      obtain ⟨A20, c20, rfl, hc20, _⟩ := own_read ho20'
      clear ho20 hnil hrd1 hk20 ha20
      obtain ⟨O2, hO2⟩ : ∃ O2, O2 = rdO xs := ⟨_, rfl⟩
      have hbd2 := rdO_bound xs
      rw [← hO2] at hbd2
      have HO2 := Lib.hid hO2
      clear hO2
      go_wp2_with fail
      have hrd := refread_any A20 nb c20 _ xs x2 (own_slice ho20') hc20 (fun g' hg' => own_lt ho20' hg')
      rw [← HO2.out] at hrd
      refine hrd.mono ?_
      rintro e x3 ⟨S3, sc3, D3, dc3, rfl, hs3, hd3, hx3⟩
      have G3 := Got.mk' hs3 hd3
      clear hrd hs3 hd3
      obtain ⟨s2, e2⟩ := O2
      simp only at *
      unfold Rc.val
      go_upto_region 20 with ((with_reducible refine stAt 27 (.tmp 21) (.tmp 128) ?_); (refine wpList_store_row rfl 27 (.tmp 21) (.tmp 128) rfl x3.heap.size (s2.a.at_ S3 sc3 D3 dc3).cells rfl rfl 27 _ (heap_alloc_new _ _) (HZ.out _ _ _ _ _) (by rfl) (cells_one _) ?_; obtain ⟨b21, hx4⟩ := row_new x3 #[.int .i64 0, .int .i64 0, .int .i64 0, .int .i64 0, .int .i64 0, .int .i64 0, .int .i64 0, .int .i64 0, .int .i64 0, .slice none 0 0, .slice none 0 0] (s2.a.at_ S3 sc3 D3 dc3).cells 27; generalize World.setRow (World.alloc x3 (.cells #[.int .i64 0, .int .i64 0, .int .i64 0, .int .i64 0, .int .i64 0, .int .i64 0, .int .i64 0, .int .i64 0, .int .i64 0, .slice none 0 0, .slice none 0 0] 27)) x3.heap.size (s2.a.at_ S3 sc3 D3 dc3).cells = x4 at *))
      have how4 := own_nw how1 ((hx2.nw hx3).nw hx4)
      go_wp2_with fail
      have hrd := rread_any (some ⟨g, 0, none⟩) nb c5 _ xs x4 (own_slice how4) (by omega) (fun g' hg' => own_lt how4 hg')
      rw [← HO2.out] at hrd
      refine hrd.mono ?_
      rintro e x5 ⟨S4, sc4, D4, dc4, rfl, hs4, hd4, hx5⟩
      have G4 := Got.mk' hs4 hd4
      clear hrd hs4 hd4
      simp only at *
      unfold Rc.val
      go_upto_region 21 with ((with_reducible refine stAt 27 (.tmp 23) (.tmp 133) ?_); (refine wpList_store_row rfl 27 (.tmp 23) (.tmp 133) rfl x5.heap.size (s2.a.at_ S4 sc4 D4 dc4).cells rfl rfl 27 _ (heap_alloc_new _ _) (HZ.out _ _ _ _ _) (by rfl) (cells_one _) ?_; obtain ⟨b23, hx6⟩ := row_new x5 #[.int .i64 0, .int .i64 0, .int .i64 0, .int .i64 0, .int .i64 0, .int .i64 0, .int .i64 0, .int .i64 0, .int .i64 0, .slice none 0 0, .slice none 0 0] (s2.a.at_ S4 sc4 D4 dc4).cells 27; generalize World.setRow (World.alloc x5 (.cells #[.int .i64 0, .int .i64 0, .int .i64 0, .int .i64 0, .int .i64 0, .int .i64 0, .int .i64 0, .int .i64 0, .int .i64 0, .slice none 0 0, .slice none 0 0] 27)) x5.heap.size (s2.a.at_ S4 sc4 D4 dc4).cells = x6 at *))
      have hx46 := hx5.nw hx6
      have b21 := blk_nw b21 hx46
      have G3 := G3.nw (hx4.nw hx46)
      have G4 := G4.nw hx6
      go_wp2_with (first | ((with_reducible refine opAt 135 ?_); (refine wpList_load_row rfl 27 _ rfl x5.heap.size rfl _ _ _ _ b23 Try.underlying27 rfl (HZ.out _ _ _ _ _) ?_)) | ((with_reducible refine opAt 136 ?_); (refine wpList_load_row rfl 27 _ rfl x3.heap.size rfl _ _ _ _ b21 Try.underlying27 rfl (HZ.out _ _ _ _ _) ?_)))
      refine (same_got G4 G3 hbd2).mono ?_
      rintro e x7 ⟨rfl, hx7⟩
      have hxz7 := (((hx1.nw hx2).nw hx3).nw hx4).nw (hx46.nw hx7)
      have b8 := blk_nw b8 hxz7
      have b12 := blk_nw b12 hxz7
      have b14 := blk_nw b14 hxz7
      have b23 := blk_nw b23 hx7
      have b12l : x7.heap[w6.heap.size]? = some (.cells #[.int .i64 s.a.k, .int .i64 s.a.o, .int .i64 s.a.n, .int .i64 s.a.p, .int .i64 s.a.v, .int .i64 s.a.f, .int .i64 s.a.r, .int .i64 s.a.z, .int .i64 s.a.h, .slice S1 s.a.sn sc1, .slice D1 s.a.dn dc1] 27 (0, 0)) := b12
      have b23l : x7.heap[x5.heap.size]? = some (.cells #[.int .i64 s2.a.k, .int .i64 s2.a.o, .int .i64 s2.a.n, .int .i64 s2.a.p, .int .i64 s2.a.v, .int .i64 s2.a.f, .int .i64 s2.a.r, .int .i64 s2.a.z, .int .i64 s2.a.h, .slice S4 s2.a.sn sc4, .slice D4 s2.a.dn dc4] 27 (0, 0)) := b23
      clear b12 b23
      go_wp2_with (first | ((with_reducible refine opAt 138 ?_); (refine wpList_load_row rfl 27 _ rfl w6.heap.size rfl _ _ _ _ b12l Try.underlying27 rfl (by kernel_rfl) ?_)) | ((with_reducible refine opAt 139 ?_); (refine wpList_load_row rfl 27 _ rfl x5.heap.size rfl _ _ _ _ b23l Try.underlying27 rfl (by kernel_rfl) ?_)))
      have hz1' := hx1.size
      have hz2' := hx2.size
      have hz3' := hx3.size
      have hz4' := hx4.size
      have hz5' := hx5.size
      have hz6' := hx6.size
      have hz7' := hx7.size
      have G0 := G0.nw hxz7
      have G1 := G1.nw hxz7
      have G2 := G2.nw hxz7
      have G4 := G4.nw hx7
      have how7 := own_nw how hxz7
      have ho27 := own_nw ho20' (((hx3.nw hx4).nw hx46).nw hx7)
      have hlit := own_lit (e := 27) (size := 11) (base := x7.heap.size) x7 #[.int .i64 s.a.k, .int .i64 s.a.o, .int .i64 s.a.n, .int .i64 s.a.p, .int .i64 s.a.v, .int .i64 s.a.f, .int .i64 s.a.r, .int .i64 s.a.z, .int .i64 s.a.h, .slice S1 s.a.sn sc1, .slice D1 s.a.dn dc1, .int .i64 s2.a.k, .int .i64 s2.a.o, .int .i64 s2.a.n, .int .i64 s2.a.p, .int .i64 s2.a.v, .int .i64 s2.a.f, .int .i64 s2.a.r, .int .i64 s2.a.z, .int .i64 s2.a.h, .slice S4 s2.a.sn sc4, .slice D4 s2.a.dn dc4] 2 (by simp [maxLen]) rfl (Nat.le_refl _)
      have hx8 : Nw x7 (x7.alloc (.cells #[.int .i64 s.a.k, .int .i64 s.a.o, .int .i64 s.a.n, .int .i64 s.a.p, .int .i64 s.a.v, .int .i64 s.a.f, .int .i64 s.a.r, .int .i64 s.a.z, .int .i64 s.a.h, .slice S1 s.a.sn sc1, .slice D1 s.a.dn dc1, .int .i64 s2.a.k, .int .i64 s2.a.o, .int .i64 s2.a.n, .int .i64 s2.a.p, .int .i64 s2.a.v, .int .i64 s2.a.f, .int .i64 s2.a.r, .int .i64 s2.a.z, .int .i64 s2.a.h, .slice S4 s2.a.sn sc4, .slice D4 s2.a.dn dc4] 27)) := (Kp.refl _ _).alloc _
      have hz8' : (x7.alloc (.cells #[.int .i64 s.a.k, .int .i64 s.a.o, .int .i64 s.a.n, .int .i64 s.a.p, .int .i64 s.a.v, .int .i64 s.a.f, .int .i64 s.a.r, .int .i64 s.a.z, .int .i64 s.a.h, .slice S1 s.a.sn sc1, .slice D1 s.a.dn dc1, .int .i64 s2.a.k, .int .i64 s2.a.o, .int .i64 s2.a.n, .int .i64 s2.a.p, .int .i64 s2.a.v, .int .i64 s2.a.f, .int .i64 s2.a.r, .int .i64 s2.a.z, .int .i64 s2.a.h, .slice S4 s2.a.sn sc4, .slice D4 s2.a.dn dc4] 27)).heap.size = x7.heap.size + 1 := by simp
      generalize x7.alloc (.cells #[.int .i64 s.a.k, .int .i64 s.a.o, .int .i64 s.a.n, .int .i64 s.a.p, .int .i64 s.a.v, .int .i64 s.a.f, .int .i64 s.a.r, .int .i64 s.a.z, .int .i64 s.a.h, .slice S1 s.a.sn sc1, .slice D1 s.a.dn dc1, .int .i64 s2.a.k, .int .i64 s2.a.o, .int .i64 s2.a.n, .int .i64 s2.a.p, .int .i64 s2.a.v, .int .i64 s2.a.f, .int .i64 s2.a.r, .int .i64 s2.a.z, .int .i64 s2.a.h, .slice S4 s2.a.sn sc4, .slice D4 s2.a.dn dc4] 27) = x8 at *
      have hRR : Rd x8 (fun k => (Value.slice (some ⟨x7.heap.size, 0, none⟩) 2 2).ownBlock = some k) 11 (some ⟨x7.heap.size, 0, none⟩) 2 (rcs [s.a.at_ S1 sc1 D1 dc1, s2.a.at_ S4 sc4 D4 dc4]) := Rd.of_own hlit
      have G1' := G1.nw hx8
      have G4' := G4.nw hx8
      have hTD : ∀ i, Sof ([s.a.at_ S1 sc1 D1 dc1, s2.a.at_ S4 sc4 D4 dc4].map Rc.vD) i → (w5.heap.size ≤ i ∧ i < w6.heap.size) ∨ (x4.heap.size ≤ i ∧ i < x5.heap.size) := fun i hi => by
        obtain ⟨v, hv, hvi⟩ := hi
        simp only [List.map_cons, List.map_nil, List.mem_cons, List.not_mem_nil, or_false] at hv
        rcases hv with rfl | rfl
        · exact .inl ⟨own_ge G1.od hvi, G1.hd i hvi⟩
        · exact .inr ⟨own_ge G4.od hvi, G4.hd i hvi⟩
      have hTS : ∀ i, Sof ([s.a.at_ S1 sc1 D1 dc1, s2.a.at_ S4 sc4 D4 dc4].map Rc.vS) i → (w5.heap.size ≤ i ∧ i < w6.heap.size) ∨ (x4.heap.size ≤ i ∧ i < x5.heap.size) := fun i hi => by
        obtain ⟨v, hv, hvi⟩ := hi
        simp only [List.map_cons, List.map_nil, List.mem_cons, List.not_mem_nil, or_false] at hv
        rcases hv with rfl | rfl
        · exact .inl ⟨own_ge G1.os hvi, G1.hs i hvi⟩
        · exact .inr ⟨own_ge G4.os hvi, G4.hs i hvi⟩
      have hOW := rowned_any (some ⟨x7.heap.size, 0, none⟩) 2 2 _ [s.a.at_ S1 sc1 D1 dc1, s2.a.at_ S4 sc4 D4 dc4] x8 hRR (by omega)
        ((Sep.nil.snoc (v := (s.a.at_ S1 sc1 D1 dc1).vD) (fun u hu => by simp at hu)).snoc (v := (s2.a.at_ S4 sc4 D4 dc4).vD) (fun u hu i hi e => by
          simp only [List.nil_append, List.mem_singleton] at hu
          subst hu
          have h1 := G1.hd i hi
          have h2 := own_ge G4.od e
          omega))
        ((Sep.nil.snoc (v := (s.a.at_ S1 sc1 D1 dc1).vS) (fun u hu => by simp at hu)).snoc (v := (s2.a.at_ S4 sc4 D4 dc4).vS) (fun u hu i hi e => by
          simp only [List.nil_append, List.mem_singleton] at hu
          subst hu
          have h1 := G1.hs i hi
          have h2 := own_ge G4.os e
          omega))
        (fun a ha => by
          simp only [List.mem_cons, List.not_mem_nil, or_false] at ha
          rcases ha with rfl | rfl
          · exact ⟨_, own_base G1'.od (fun _ _ => Nat.zero_le _)⟩
          · exact ⟨_, own_base G4'.od (fun _ _ => Nat.zero_le _)⟩)
        (fun a ha => by
          simp only [List.mem_cons, List.not_mem_nil, or_false] at ha
          rcases ha with rfl | rfl
          · exact ⟨_, own_base G1'.os (fun _ _ => Nat.zero_le _)⟩
          · exact ⟨_, own_base G4'.os (fun _ _ => Nat.zero_le _)⟩)
        (fun a ha => by
          simp only [List.mem_cons, List.not_mem_nil, or_false] at ha
          rcases ha with rfl | rfl
          · exact ⟨by show s.a.dn ≤ _; omega, by show s.a.sn ≤ _; omega⟩
          · exact ⟨by show s2.a.dn ≤ _; omega, by show s2.a.sn ≤ _; omega⟩)
        (fun i hi h => by
          have e : x7.heap.size = i := by simpa [Value.ownBlock] using hi
          rcases h with h | h
          · have := hTD i h
            omega
          · have := hTS i h
            omega)
      refine hOW.mono ?_
      rintro e x9 ⟨rfl, hk9⟩
      have hT9 : ∀ i, (Sof ([s.a.at_ S1 sc1 D1 dc1, s2.a.at_ S4 sc4 D4 dc4].map Rc.vD) i ∨ Sof ([s.a.at_ S1 sc1 D1 dc1, s2.a.at_ S4 sc4 D4 dc4].map Rc.vS) i) → (w5.heap.size ≤ i ∧ i < w6.heap.size) ∨ (x4.heap.size ≤ i ∧ i < x5.heap.size) := fun i hi => hi.elim (hTD i) (hTS i)
      have b8 := blk_kp (blk_nw b8 hx8) hk9 (fun h => by have := hT9 _ h; omega)
      have b14 := blk_kp (blk_nw b14 hx8) hk9 (fun h => by have := hT9 _ h; omega)
      have G0 := (G0.nw hx8).kp hk9 (fun i h1 h2 h => by have := hT9 _ h; omega)
      have G2 := (G2.nw hx8).kp hk9 (fun i h1 h2 h => by have := hT9 _ h; omega)
      have how9 := own_kp (own_nw how7 hx8) hk9 (fun i hi h => by have := hT9 _ h; have e : g = i := (by simpa [Value.ownBlock] using hi); omega)
      have ho29 := own_kp (own_nw ho27 hx8) hk9 (fun i hi h => by have := hT9 _ h; have h1 := own_ge ho20' hi; have h2 := own_lt ho20' hi; omega)
      have hn9 : Nw w x9 := ((hnz.nw hxz7).nw hx8).trans hk9 fun i hi h => by have := hT9 _ h; have := hn5.size; have := hnz.size; omega
      clear hk9 hOW hT9 hTD hTS G1 G4 G1' G4' hRR hlit b12l b23l G3
      go_wp2_with (first | ((with_reducible refine opAt 142 ?_); (refine wpList_load_row rfl 27 _ rfl w8.heap.size rfl _ _ _ _ b14 Try.underlying27 rfl (HZ.out _ _ _ _ _) ?_)) | ((with_reducible refine opAt 143 ?_); (refine wpList_load_row rfl 27 _ rfl w2.heap.size rfl _ _ _ _ b8 Try.underlying27 rfl (HZ.out _ _ _ _ _) ?_)))
      refine (same_got G2 G0 hbd).mono ?_
      rintro e y1 ⟨rfl, hy1⟩
      go_wp2_with fail
      refine (sameb_any _ _ nb _ _ _ _ xs y1 (own_slice (own_nw how9 hy1)) (own_slice (own_nw ho29 hy1)) (by omega)).mono ?_
      rintro e y2 ⟨rfl, hy2⟩
      have he2 : (e2 == e2) = true := by simp
      go_wp2_with fail
      go_ret
      exact ⟨rfl, (hn9.nw hy1).nw hy2⟩
    · have hz4 : (0 : Int) < (nb : Int) := by omega
      have hz5 : at_ < 0 := by omega
      have hz6 : decide (0 ≤ at_) = false := by simp; omega
      clear hz hzz
      go_wp2_with (first | ((with_reducible refine opAt 119 ?_); (refine wpList_load_row rfl 27 _ rfl w6.heap.size rfl _ _ _ _ b12 Try.underlying27 rfl (HZ.out _ _ _ _ _) ?_)) | ((with_reducible refine opAt 120 ?_); (refine wpList_load_row rfl 27 _ rfl w2.heap.size rfl _ _ _ _ b8 Try.underlying27 rfl (HZ.out _ _ _ _ _) ?_)))
      refine (same_got G1 G0 hbd).mono ?_
      rintro e x1 ⟨rfl, hx1⟩
      have how1 := own_nw how hx1
      have hrd1 := own_slice how1
      have hnil : x1.ownsRow x1.heap.size 5 1 (.slice none 0 0) 0 (bys []) := World.ownsRow_nil _ _ _ _
      go_upto_region 19 with (at_builtin; (refine wpList_appv _ rfl (.tmp 122) (.tmp 123) 25 5 rfl eb x1.heap.size _ _ _ hnil rfl _ _ _ c5 _ hrd1 rfl (bys_one _) (by simp only [maxLen]; omega) (by omega) (Nat.le_refl _) ?_; intro v20 x2 ho20 hk20 ha20))
      have hx2 : Nw x1 x2 := hk20.mono fun i _ e => by simp [Value.ownBlock] at e
      rw [Nat.zero_add] at ho20
      have ho20' : x2.ownsRow x1.heap.size 5 1 v20 nb (bys xs) := ho20
      obtain ⟨A20, c20, rfl, hc20, _⟩ := own_read ho20'
      clear ho20 hnil hrd1 hk20 ha20
      obtain ⟨O2, hO2⟩ : ∃ O2, O2 = rdO xs := ⟨_, rfl⟩
      have hbd2 := rdO_bound xs
      rw [← hO2] at hbd2
      have HO2 := Lib.hid hO2
      clear hO2
      go_wp2_with fail
      have hrd := refread_any A20 nb c20 _ xs x2 (own_slice ho20') hc20 (fun g' hg' => own_lt ho20' hg')
      rw [← HO2.out] at hrd
      refine hrd.mono ?_
      rintro e x3 ⟨S3, sc3, D3, dc3, rfl, hs3, hd3, hx3⟩
      have G3 := Got.mk' hs3 hd3
      clear hrd hs3 hd3
      obtain ⟨s2, e2⟩ := O2
      simp only at *
      unfold Rc.val
      go_upto_region 20 with ((with_reducible refine stAt 27 (.tmp 21) (.tmp 128) ?_); (refine wpList_store_row rfl 27 (.tmp 21) (.tmp 128) rfl x3.heap.size (s2.a.at_ S3 sc3 D3 dc3).cells rfl rfl 27 _ (heap_alloc_new _ _) (HZ.out _ _ _ _ _) (by rfl) (cells_one _) ?_; obtain ⟨b21, hx4⟩ := row_new x3 #[.int .i64 0, .int .i64 0, .int .i64 0, .int .i64 0, .int .i64 0, .int .i64 0, .int .i64 0, .int .i64 0, .int .i64 0, .slice none 0 0, .slice none 0 0] (s2.a.at_ S3 sc3 D3 dc3).cells 27; generalize World.setRow (World.alloc x3 (.cells #[.int .i64 0, .int .i64 0, .int .i64 0, .int .i64 0, .int .i64 0, .int .i64 0, .int .i64 0, .int .i64 0, .int .i64 0, .slice none 0 0, .slice none 0 0] 27)) x3.heap.size (s2.a.at_ S3 sc3 D3 dc3).cells = x4 at *))
      have how4 := own_nw how1 ((hx2.nw hx3).nw hx4)
      go_wp2_with fail
      have hrd := rread_any (some ⟨g, 0, none⟩) nb c5 _ xs x4 (own_slice how4) (by omega) (fun g' hg' => own_lt how4 hg')
      rw [← HO2.out] at hrd
      refine hrd.mono ?_
      rintro e x5 ⟨S4, sc4, D4, dc4, rfl, hs4, hd4, hx5⟩
      have G4 := Got.mk' hs4 hd4
      clear hrd hs4 hd4
      simp only at *
      unfold Rc.val
      go_upto_region 21 with ((with_reducible refine stAt 27 (.tmp 23) (.tmp 133) ?_); (refine wpList_store_row rfl 27 (.tmp 23) (.tmp 133) rfl x5.heap.size (s2.a.at_ S4 sc4 D4 dc4).cells rfl rfl 27 _ (heap_alloc_new _ _) (HZ.out _ _ _ _ _) (by rfl) (cells_one _) ?_; obtain ⟨b23, hx6⟩ := row_new x5 #[.int .i64 0, .int .i64 0, .int .i64 0, .int .i64 0, .int .i64 0, .int .i64 0, .int .i64 0, .int .i64 0, .int .i64 0, .slice none 0 0, .slice none 0 0] (s2.a.at_ S4 sc4 D4 dc4).cells 27; generalize World.setRow (World.alloc x5 (.cells #[.int .i64 0, .int .i64 0, .int .i64 0, .int .i64 0, .int .i64 0, .int .i64 0, .int .i64 0, .int .i64 0, .int .i64 0, .slice none 0 0, .slice none 0 0] 27)) x5.heap.size (s2.a.at_ S4 sc4 D4 dc4).cells = x6 at *))
      have hx46 := hx5.nw hx6
      have b21 := blk_nw b21 hx46
      have G3 := G3.nw (hx4.nw hx46)
      have G4 := G4.nw hx6
      go_wp2_with (first | ((with_reducible refine opAt 135 ?_); (refine wpList_load_row rfl 27 _ rfl x5.heap.size rfl _ _ _ _ b23 Try.underlying27 rfl (HZ.out _ _ _ _ _) ?_)) | ((with_reducible refine opAt 136 ?_); (refine wpList_load_row rfl 27 _ rfl x3.heap.size rfl _ _ _ _ b21 Try.underlying27 rfl (HZ.out _ _ _ _ _) ?_)))
      refine (same_got G4 G3 hbd2).mono ?_
      rintro e x7 ⟨rfl, hx7⟩
      have hxz7 := (((hx1.nw hx2).nw hx3).nw hx4).nw (hx46.nw hx7)
      have b8 := blk_nw b8 hxz7
      have b12 := blk_nw b12 hxz7
      have b14 := blk_nw b14 hxz7
      have b23 := blk_nw b23 hx7
      have b12l : x7.heap[w6.heap.size]? = some (.cells #[.int .i64 s.a.k, .int .i64 s.a.o, .int .i64 s.a.n, .int .i64 s.a.p, .int .i64 s.a.v, .int .i64 s.a.f, .int .i64 s.a.r, .int .i64 s.a.z, .int .i64 s.a.h, .slice S1 s.a.sn sc1, .slice D1 s.a.dn dc1] 27 (0, 0)) := b12
      have b23l : x7.heap[x5.heap.size]? = some (.cells #[.int .i64 s2.a.k, .int .i64 s2.a.o, .int .i64 s2.a.n, .int .i64 s2.a.p, .int .i64 s2.a.v, .int .i64 s2.a.f, .int .i64 s2.a.r, .int .i64 s2.a.z, .int .i64 s2.a.h, .slice S4 s2.a.sn sc4, .slice D4 s2.a.dn dc4] 27 (0, 0)) := b23
      clear b12 b23
      go_wp2_with (first | ((with_reducible refine opAt 138 ?_); (refine wpList_load_row rfl 27 _ rfl w6.heap.size rfl _ _ _ _ b12l Try.underlying27 rfl (by kernel_rfl) ?_)) | ((with_reducible refine opAt 139 ?_); (refine wpList_load_row rfl 27 _ rfl x5.heap.size rfl _ _ _ _ b23l Try.underlying27 rfl (by kernel_rfl) ?_)))
      have hz1' := hx1.size
      have hz2' := hx2.size
      have hz3' := hx3.size
      have hz4' := hx4.size
      have hz5' := hx5.size
      have hz6' := hx6.size
      have hz7' := hx7.size
      have G0 := G0.nw hxz7
      have G1 := G1.nw hxz7
      have G2 := G2.nw hxz7
      have G4 := G4.nw hx7
      have how7 := own_nw how hxz7
      have ho27 := own_nw ho20' (((hx3.nw hx4).nw hx46).nw hx7)
      have hlit := own_lit (e := 27) (size := 11) (base := x7.heap.size) x7 #[.int .i64 s.a.k, .int .i64 s.a.o, .int .i64 s.a.n, .int .i64 s.a.p, .int .i64 s.a.v, .int .i64 s.a.f, .int .i64 s.a.r, .int .i64 s.a.z, .int .i64 s.a.h, .slice S1 s.a.sn sc1, .slice D1 s.a.dn dc1, .int .i64 s2.a.k, .int .i64 s2.a.o, .int .i64 s2.a.n, .int .i64 s2.a.p, .int .i64 s2.a.v, .int .i64 s2.a.f, .int .i64 s2.a.r, .int .i64 s2.a.z, .int .i64 s2.a.h, .slice S4 s2.a.sn sc4, .slice D4 s2.a.dn dc4] 2 (by simp [maxLen]) rfl (Nat.le_refl _)
      have hx8 : Nw x7 (x7.alloc (.cells #[.int .i64 s.a.k, .int .i64 s.a.o, .int .i64 s.a.n, .int .i64 s.a.p, .int .i64 s.a.v, .int .i64 s.a.f, .int .i64 s.a.r, .int .i64 s.a.z, .int .i64 s.a.h, .slice S1 s.a.sn sc1, .slice D1 s.a.dn dc1, .int .i64 s2.a.k, .int .i64 s2.a.o, .int .i64 s2.a.n, .int .i64 s2.a.p, .int .i64 s2.a.v, .int .i64 s2.a.f, .int .i64 s2.a.r, .int .i64 s2.a.z, .int .i64 s2.a.h, .slice S4 s2.a.sn sc4, .slice D4 s2.a.dn dc4] 27)) := (Kp.refl _ _).alloc _
      have hz8' : (x7.alloc (.cells #[.int .i64 s.a.k, .int .i64 s.a.o, .int .i64 s.a.n, .int .i64 s.a.p, .int .i64 s.a.v, .int .i64 s.a.f, .int .i64 s.a.r, .int .i64 s.a.z, .int .i64 s.a.h, .slice S1 s.a.sn sc1, .slice D1 s.a.dn dc1, .int .i64 s2.a.k, .int .i64 s2.a.o, .int .i64 s2.a.n, .int .i64 s2.a.p, .int .i64 s2.a.v, .int .i64 s2.a.f, .int .i64 s2.a.r, .int .i64 s2.a.z, .int .i64 s2.a.h, .slice S4 s2.a.sn sc4, .slice D4 s2.a.dn dc4] 27)).heap.size = x7.heap.size + 1 := by simp
      generalize x7.alloc (.cells #[.int .i64 s.a.k, .int .i64 s.a.o, .int .i64 s.a.n, .int .i64 s.a.p, .int .i64 s.a.v, .int .i64 s.a.f, .int .i64 s.a.r, .int .i64 s.a.z, .int .i64 s.a.h, .slice S1 s.a.sn sc1, .slice D1 s.a.dn dc1, .int .i64 s2.a.k, .int .i64 s2.a.o, .int .i64 s2.a.n, .int .i64 s2.a.p, .int .i64 s2.a.v, .int .i64 s2.a.f, .int .i64 s2.a.r, .int .i64 s2.a.z, .int .i64 s2.a.h, .slice S4 s2.a.sn sc4, .slice D4 s2.a.dn dc4] 27) = x8 at *
      have hRR : Rd x8 (fun k => (Value.slice (some ⟨x7.heap.size, 0, none⟩) 2 2).ownBlock = some k) 11 (some ⟨x7.heap.size, 0, none⟩) 2 (rcs [s.a.at_ S1 sc1 D1 dc1, s2.a.at_ S4 sc4 D4 dc4]) := Rd.of_own hlit
      have G1' := G1.nw hx8
      have G4' := G4.nw hx8
      have hTD : ∀ i, Sof ([s.a.at_ S1 sc1 D1 dc1, s2.a.at_ S4 sc4 D4 dc4].map Rc.vD) i → (w5.heap.size ≤ i ∧ i < w6.heap.size) ∨ (x4.heap.size ≤ i ∧ i < x5.heap.size) := fun i hi => by
        obtain ⟨v, hv, hvi⟩ := hi
        simp only [List.map_cons, List.map_nil, List.mem_cons, List.not_mem_nil, or_false] at hv
        rcases hv with rfl | rfl
        · exact .inl ⟨own_ge G1.od hvi, G1.hd i hvi⟩
        · exact .inr ⟨own_ge G4.od hvi, G4.hd i hvi⟩
      have hTS : ∀ i, Sof ([s.a.at_ S1 sc1 D1 dc1, s2.a.at_ S4 sc4 D4 dc4].map Rc.vS) i → (w5.heap.size ≤ i ∧ i < w6.heap.size) ∨ (x4.heap.size ≤ i ∧ i < x5.heap.size) := fun i hi => by
        obtain ⟨v, hv, hvi⟩ := hi
        simp only [List.map_cons, List.map_nil, List.mem_cons, List.not_mem_nil, or_false] at hv
        rcases hv with rfl | rfl
        · exact .inl ⟨own_ge G1.os hvi, G1.hs i hvi⟩
        · exact .inr ⟨own_ge G4.os hvi, G4.hs i hvi⟩
      have hOW := rowned_any (some ⟨x7.heap.size, 0, none⟩) 2 2 _ [s.a.at_ S1 sc1 D1 dc1, s2.a.at_ S4 sc4 D4 dc4] x8 hRR (by omega)
        ((Sep.nil.snoc (v := (s.a.at_ S1 sc1 D1 dc1).vD) (fun u hu => by simp at hu)).snoc (v := (s2.a.at_ S4 sc4 D4 dc4).vD) (fun u hu i hi e => by
          simp only [List.nil_append, List.mem_singleton] at hu
          subst hu
          have h1 := G1.hd i hi
          have h2 := own_ge G4.od e
          omega))
        ((Sep.nil.snoc (v := (s.a.at_ S1 sc1 D1 dc1).vS) (fun u hu => by simp at hu)).snoc (v := (s2.a.at_ S4 sc4 D4 dc4).vS) (fun u hu i hi e => by
          simp only [List.nil_append, List.mem_singleton] at hu
          subst hu
          have h1 := G1.hs i hi
          have h2 := own_ge G4.os e
          omega))
        (fun a ha => by
          simp only [List.mem_cons, List.not_mem_nil, or_false] at ha
          rcases ha with rfl | rfl
          · exact ⟨_, own_base G1'.od (fun _ _ => Nat.zero_le _)⟩
          · exact ⟨_, own_base G4'.od (fun _ _ => Nat.zero_le _)⟩)
        (fun a ha => by
          simp only [List.mem_cons, List.not_mem_nil, or_false] at ha
          rcases ha with rfl | rfl
          · exact ⟨_, own_base G1'.os (fun _ _ => Nat.zero_le _)⟩
          · exact ⟨_, own_base G4'.os (fun _ _ => Nat.zero_le _)⟩)
        (fun a ha => by
          simp only [List.mem_cons, List.not_mem_nil, or_false] at ha
          rcases ha with rfl | rfl
          · exact ⟨by show s.a.dn ≤ _; omega, by show s.a.sn ≤ _; omega⟩
          · exact ⟨by show s2.a.dn ≤ _; omega, by show s2.a.sn ≤ _; omega⟩)
        (fun i hi h => by
          have e : x7.heap.size = i := by simpa [Value.ownBlock] using hi
          rcases h with h | h
          · have := hTD i h
            omega
          · have := hTS i h
            omega)
      refine hOW.mono ?_
      rintro e x9 ⟨rfl, hk9⟩
      have hT9 : ∀ i, (Sof ([s.a.at_ S1 sc1 D1 dc1, s2.a.at_ S4 sc4 D4 dc4].map Rc.vD) i ∨ Sof ([s.a.at_ S1 sc1 D1 dc1, s2.a.at_ S4 sc4 D4 dc4].map Rc.vS) i) → (w5.heap.size ≤ i ∧ i < w6.heap.size) ∨ (x4.heap.size ≤ i ∧ i < x5.heap.size) := fun i hi => hi.elim (hTD i) (hTS i)
      have b8 := blk_kp (blk_nw b8 hx8) hk9 (fun h => by have := hT9 _ h; omega)
      have b14 := blk_kp (blk_nw b14 hx8) hk9 (fun h => by have := hT9 _ h; omega)
      have G0 := (G0.nw hx8).kp hk9 (fun i h1 h2 h => by have := hT9 _ h; omega)
      have G2 := (G2.nw hx8).kp hk9 (fun i h1 h2 h => by have := hT9 _ h; omega)
      have how9 := own_kp (own_nw how7 hx8) hk9 (fun i hi h => by have := hT9 _ h; have e : g = i := (by simpa [Value.ownBlock] using hi); omega)
      have ho29 := own_kp (own_nw ho27 hx8) hk9 (fun i hi h => by have := hT9 _ h; have h1 := own_ge ho20' hi; have h2 := own_lt ho20' hi; omega)
      have hn9 : Nw w x9 := ((hnz.nw hxz7).nw hx8).trans hk9 fun i hi h => by have := hT9 _ h; have := hn5.size; have := hnz.size; omega
      clear hk9 hOW hT9 hTD hTS G1 G4 G1' G4' hRR hlit b12l b23l G3
      go_wp2_with (first | ((with_reducible refine opAt 142 ?_); (refine wpList_load_row rfl 27 _ rfl w8.heap.size rfl _ _ _ _ b14 Try.underlying27 rfl (HZ.out _ _ _ _ _) ?_)) | ((with_reducible refine opAt 143 ?_); (refine wpList_load_row rfl 27 _ rfl w2.heap.size rfl _ _ _ _ b8 Try.underlying27 rfl (HZ.out _ _ _ _ _) ?_)))
      refine (same_got G2 G0 hbd).mono ?_
      rintro e y1 ⟨rfl, hy1⟩
      go_wp2_with fail
      refine (sameb_any _ _ nb _ _ _ _ xs y1 (own_slice (own_nw how9 hy1)) (own_slice (own_nw ho29 hy1)) (by omega)).mono ?_
      rintro e y2 ⟨rfl, hy2⟩
      have he2 : (e2 == e2) = true := by simp
      go_wp2_with fail
      go_ret
      exact ⟨rfl, (hn9.nw hy1).nw hy2⟩

end Go.Proofs.Ytjgnapjhlhdgfaa
