/- Records: the law RecordSums. -/
import Derived.Test.YtjgnapjhlhdgfaaDoorCb
import Derived.Test.YtjgnapjhlhdgfaaDoorRl
set_option linter.unusedVariables false
set_option linter.unusedSimpArgs false
namespace Go.Proofs.YtjgnapjhlhdgfaaDoor
open Go.RowKit

theorem TabOk.kp {w w' : World} {S : Nat → Prop} (h : TabOk w) (k : Kp S w w') (hS : ¬ S 0) : TabOk w' := fun i hi =>
  (k.cell (World.block_lt_of_cell? _ _ (h i hi)) hS).trans (h i hi)
theorem TabOk.nw {w w' : World} (h : TabOk w) (k : Nw w w') : TabOk w' := h.kp k fun e => e
theorem TabOk.lt {w : World} (h : TabOk w) : 0 < w.heap.size := World.block_lt_of_cell? _ _ (h 0 (by omega))

theorem turn1 {w : World} {base e g n m cap : Nat} {l : List UInt8} {k : Nat} {a : Int} (h : w.ownsRow base e 1 (.slice (some ⟨g, 0, none⟩) (m + n) cap) (m + n) (bys [] ++ bys l)) (hl : l.length = n) (hk : k < n) (h0 : 0 ≤ a) (h1 : a < 256) :
    (∃ v, w.cell? ⟨g, k, none⟩ = some v) ∧ w.frozen? ⟨g, k, none⟩ = false ∧
      Hid ((w.setCell ⟨g, k, none⟩ (.int .u8 a)).ownsRow base e 1 (.slice (some ⟨g, 0, none⟩) (m + n) cap) (m + n) (bys (l.set k (UInt8.ofNat a.toNat))) ∧ Kp (fun i => i = g) w (w.setCell ⟨g, k, none⟩ (.int .u8 a))) := by
  have hb : (.int .u8 a : Value) = bv (UInt8.ofNat a.toNat) := bv_mk h0 h1
  have hst := h.stored k (bv (UInt8.ofNat a.toNat))
  have e1 : bys [] ++ bys l = bys l := rfl
  rw [e1] at h hst
  rw [bys_set, ← hb] at hst
  exact ⟨⟨_, own_at h (List.getElem?_eq_getElem (by rw [bys_len]; omega))⟩, h.frozenAt _, hst.1, (Kp.of_grown hst.2).mono fun i _ e => by injection e⟩

set_option maxRecDepth 100000 in
set_option maxHeartbeats 3200000 in
theorem law_RecordSums (A0 : Option Addr) (n0 c0 : Nat) (x0 : List UInt8) (a1 a2 : Int) (w : World) (hT : TabOk w)
    (hr0 : Rd w (fun _ => True) 1 A0 n0 (bys x0)) (hc0 : n0 ≤ c0) (hb0 : c0 * 1 ≤ 140737488351232) (h1l : -9223372036854775808 ≤ a1) (h1u : a1 ≤ 9223372036854775807) (h2l : 0 ≤ a2) (h2u : a2 < 256) :
    Calls Tryd.prog 3 #[.slice A0 n0 c0, .int .i64 a1, .int .u8 a2] w fun e w' => e = .returned (.bool true) ∧ Nw w w' := by
  have hl0 : x0.length = n0 := by have := hr0.len; rwa [bys_len] at this
  have HL := Lib.hid hl0
  have eb := Tryd.elU8
  have HT := Lib.hid hT
  have HSS := Lib.hid (fun k hk x => Crc.sum_set x0 k hk x)
  have HRS := Lib.hid (fun W (h : Nw w W) => refsum_any A0 n0 c0 _ x0 W (hr0.nw h) (by omega))
  have HPS := Lib.hid (fun W (h : Nw w W) => rsum_any A0 n0 c0 _ x0 W (HT.out.nw h) (hr0.nw h) (by omega))
  obtain ⟨S, hS⟩ : ∃ S, S = Crc.sum x0 := ⟨_, rfl⟩
  rw [← hS] at HRS HPS HSS
  have hss : ((S : Int) != (S : Int)) = false := by simp
  have hss2 : ((S : Int) == (S : Int)) = true := by simp
  clear hT hS hl0
  by_cases hz : n0 = 0 ∨ a1 < 0
  · have hz' : n0 = 0 ∨ (((n0 : Int) == 0) = false ∧ a1 < 0) := by
      by_cases h : n0 = 0
      · exact .inl h
      · exact .inr ⟨by rw [beq_eq_false_iff_ne]; omega, by omega⟩
    clear hz hr0
    rcases hz' with rfl | ⟨hz1, hz2⟩
    all_goals
      go_enter Tryd.func3, Tryd.ntmps3
      go_wp2_with fail
      refine (awake_any _).mono ?_
      rintro e w2 ⟨rfl, hnw2⟩
      go_wp2_with fail
      refine (HRS.out w2 hnw2).mono ?_
      rintro e w' ⟨rfl, rfl⟩
      go_wp2_with fail
      refine (HPS.out w2 hnw2).mono ?_
      rintro e w' ⟨rfl, rfl⟩
      go_wp2_with fail
      go_ret
      exact ⟨rfl, hnw2⟩
  · have hz1 : 0 < n0 := by omega
    have hz2 : ¬ a1 < 0 := by omega
    have hz3 : ((n0 : Int) == 0) = false := by rw [beq_eq_false_iff_ne]; omega
    have hz4 : (0 : Int) < (n0 : Int) := by omega
    obtain ⟨k, hk⟩ : ∃ k : Nat, (k : Int) = a1 % (n0 : Int) := ⟨(a1 % (n0 : Int)).toNat, by
      have := Int.emod_nonneg a1 (b := (n0 : Int)) (by omega)
      omega⟩
    have hklt : k < n0 := by
      have := Int.emod_lt_of_pos a1 hz4
      omega
    have HK := Lib.hid hk
    have HR := Lib.hid hr0
    clear hz hk hr0
    go_enter Tryd.func3, Tryd.ntmps3
    go_wp2_with fail
    refine (awake_any _).mono ?_
    rintro e w2 ⟨rfl, hnw2⟩
    go_wp2_with fail
    refine (HRS.out w2 hnw2).mono ?_
    rintro e w' ⟨rfl, rfl⟩
    go_wp2_with fail
    refine (HPS.out w2 hnw2).mono ?_
    rintro e w' ⟨rfl, rfl⟩
    have hk := HK.out.symm
    have hnil : w2.ownsRow w2.heap.size 5 1 (.slice none 0 0) 0 (bys []) := World.ownsRow_nil _ _ _ _
    go_wp2_with (at_builtin; go_loud (refine wpList_appv _ rfl (.tmp 44) (.tmp 45) 22 5 rfl eb w2.heap.size _ _ _ hnil rfl _ A0 _ c0 _ (HR.out.nw hnw2) rfl (bys_one _) (by simp only [maxLen]; omega) (by omega) (Nat.le_refl _) ?_; intro v3 w3 ho3 hk3 ha3; obtain ⟨A3, c3, rfl, hc3, _⟩ := own_read ho3; have hso := own_some ho3 (show 0 < 0 + n0 by omega); obtain ⟨g, rfl⟩ := hso; have htn := turn1 (k := k) (a := a2) ho3 HL.out hklt h2l h2u; obtain ⟨⟨vv, hcl⟩, hfz, HST⟩ := htn; clear ho3))
    have how := HST.out.1
    rw [Nat.zero_add] at how
    have hg : w2.heap.size ≤ g := own_ge how rfl
    have hnw3 : Nw w2 w3 := hk3.mono fun i _ e => by simp [Value.ownBlock] at e
    have hnw4 : Nw w2 (w3.setCell ⟨g, k, none⟩ (.int .u8 a2)) := hnw3.trans HST.out.2 fun i hi e => by omega
    have hsum := HSS.out k (by rw [HL.out]; exact hklt) (UInt8.ofNat a2.toNat)
    have HRX := Lib.hid (own_slice how)
    have HN4 := Lib.hid hnw4
    clear hcl hfz HST how hnw3 hnw4 hk3
    generalize w3.setCell ⟨g, k, none⟩ (.int .u8 a2) = w4 at *
    have hn4 := hnw2.nw HN4.out
    obtain ⟨ad, rfl, _, hcb⟩ := (HR.out.nw hn4).byte (k := k) (by rw [HL.out]; exact hklt)
    have hto : (((Crc.sum (x0.set k (UInt8.ofNat a2.toNat)) : Nat) : Int) == (S : Int)) = (a2 == ((x0[k]'(by rw [HL.out]; exact hklt)).toNat : Int)) := by
      rw [Bool.eq_iff_iff]
      simp only [beq_iff_eq]
      constructor
      · intro h
        have h1 := hsum.1 (by omega)
        rw [← h1, UInt8.toNat_ofNat']
        omega
      · intro h
        have h1 := hsum.2 (by rw [h]; simp)
        omega
    have hrs := rsum_any _ _ c3 _ _ w4 (HT.out.nw hn4) HRX.out (by omega)
    generalize Crc.sum (x0.set k (UInt8.ofNat a2.toNat)) = T at *
    generalize (x0[k]'(by rw [HL.out]; exact hklt)).toNat = y at *
    have HRS2 := Lib.hid hrs
    have h1 : (k : Int) < (n0 : Int) := by omega
    have h0 : (0 : Int) ≤ (k : Int) := by omega
    clear hsum hrs hk
    refine HRS2.out.mono ?_
    rintro e w' ⟨rfl, rfl⟩
    cases hq : (a2 == (y : Int))
    all_goals
      rw [hq] at hto
      go_wp2_with fail
      go_ret
      exact ⟨rfl, hn4⟩

end Go.Proofs.YtjgnapjhlhdgfaaDoor
