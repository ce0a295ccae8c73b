/- Walks of the document's answer for layer 1 (lanternref01): it comes to the same plain arithmetic. -/
import Derived.Test.YtcakjjbfhbldeaaSc
set_option linter.unusedVariables false
set_option linter.unusedSimpArgs false
namespace Go.Proofs.Ytcakjjbfhbldeaa
open Go.RowKit

/-- The digits of n, of 0 one. -/
def dgs (n : Nat) : List Nat := dg0 (n / 128) ++ [n % 128]
theorem dgs_len (n : Nat) : (dgs n).length = siz n := by simp [dgs, siz, sz0]
theorem dg0_lt (m : Nat) : ∀ d ∈ dg0 m, d < 128 := by
  induction m using Nat.strongRecOn with
  | ind m ih =>
    intro d hd
    by_cases h0 : m = 0
    · subst h0; simp [dg0_zero] at hd
    · rw [dg0_pos h0] at hd
      rcases List.mem_append.1 hd with hd | hd
      · exact ih _ (by omega) d hd
      · rw [List.mem_singleton.1 hd]; omega
theorem dgs_lt (n : Nat) : ∀ d ∈ dgs n, d < 128 := by
  intro d hd
  rcases List.mem_append.1 hd with hd | hd
  · exact dg0_lt _ d hd
  · rw [List.mem_singleton.1 hd]; omega
def raw (l : List Nat) : List UInt8 := l.map UInt8.ofNat
/-- The first k digits marked. -/
def mkd (l : List Nat) (k : Nat) : List UInt8 := (l.take k).map mk8 ++ (l.drop k).map UInt8.ofNat
theorem mkd_zero (l : List Nat) : mkd l 0 = raw l := by simp [mkd, raw]
theorem mkd_len (l : List Nat) (k : Nat) : (mkd l k).length = l.length := by simp [mkd]; omega
theorem mkd_all (n : Nat) : mkd (dgs n) (siz n - 1) = enc n := by
  have e : siz n - 1 = (dg0 (n / 128)).length := by simp [siz, sz0]
  rw [e]
  simp [mkd, dgs, enc, hi0]
theorem mkd_get (l : List Nat) (k : Nat) (h : k < l.length) : (mkd l k)[k]? = some (UInt8.ofNat l[k]) := by
  unfold mkd
  rw [List.getElem?_append_right (by simp; omega)]
  simp [h, Nat.min_eq_left (Nat.le_of_lt h)]
theorem mkd_set (l : List Nat) (k : Nat) (h : k < l.length) : (mkd l k).set k (mk8 l[k]) = mkd l (k + 1) := by
  have e1 : ((l.take k).map mk8).length = k := by simp; omega
  unfold mkd
  rw [List.set_append_right _ _ (by omega), e1, Nat.sub_self, List.drop_eq_getElem_cons h, List.map_cons, List.set_cons_zero, List.take_succ_eq_append_getElem h, List.map_append, List.append_assoc]
  rfl

theorem dgs_inv {n m : Nat} {l : List Nat} (hm : m ≠ 0) (h : dg0 m ++ l = dgs n) : dg0 (m / 128) ++ (m % 128 :: l) = dgs n := by
  rw [← h, dg0_pos hm]
  simp

set_option maxRecDepth 100000 in
set_option maxHeartbeats 800000 in
theorem digits_any (n : Int) (w : World) (h0 : 0 ≤ n) (h1 : n < 18446744073709551616) :
    Calls Try.prog 29 #[.int .u64 n] w fun e w' => ∃ v, e = .returned v ∧ w'.ownsRow w.heap.size 5 1 v (siz n.toNat) (bys (raw (dgs n.toNat))) ∧ Nw w w' := by
  have hs2 := siz_le (n := n.toNat) (by omega)
  have hdl := dgs_len n.toNat
  obtain ⟨k, rfl⟩ := Int.eq_ofNat_of_zero_le h0
  rw [Int.toNat_natCast] at *
  have ei := Try.elU8
  have HDL := Lib.hid hdl
  clear hdl
  have hof : ∀ d : Nat, d < 128 → (d : Int) = ((UInt8.ofNat d).toNat : Int) := fun d hd => by
    simp only [UInt8.toNat_ofNat']
    omega
  have hw0 := own_byte w 5 w.heap.size ((k : Int) % 128) (UInt8.ofNat (k % 128)) (by rw [← hof _ (by omega)]; omega) (Nat.le_refl _)
  have HOF := Lib.hid hof
  clear hof
  go_enter Try.func29, Try.ntmps29
  go_wp2
  go_loopw [0, 3] (fun q v wr => ∃ (m : Nat) (l : List Nat), q = .int .u64 m ∧ m < 18446744073709551616 ∧ Hid (dg0 m ++ l = dgs k) ∧ l.length ≤ 10 ∧ 1 ≤ l.length ∧ wr.ownsRow w.heap.size 5 1 v l.length (bys (raw l)) ∧ Nw w wr)
    (fun q _ _ => (intOf q).toNat)
  case atStart => exact ⟨k / 128, [k % 128], by go_num, by omega, rfl, by simp, by simp, hw0, (Kp.refl _ w).alloc _⟩
  case round =>
    obtain ⟨m, l, rfl, hm, hl, hll, hl1, hown, hnw⟩ := hrel
    by_cases h0 : m = 0
    · subst h0
      go_wp2
      go_ret
      have e : l = dgs k := by rw [← hl.out, dg0_zero]; rfl
      rw [← HDL.out, ← e]
      exact ⟨_, rfl, hown, hnw⟩
    · have hS := Lib.hid (dgs_inv h0 hl.out)
      have hlen : (m % 128 :: l).length ≤ 10 := by
        have := congrArg List.length hS.out
        rw [HDL.out, List.length_append] at this
        omega
      have hpos : (0 : Int) < (m : Int) := by omega
      have hown1 := own_byte wr 5 w.heap.size ((m : Int) % 128) (UInt8.ofNat (m % 128)) (by rw [← HOF.out _ (by omega)]; omega) hnw.size
      obtain ⟨A, c, rfl, _, hrd⟩ := own_read hown
      have hrd1 := hrd.alloc (.cells #[.int .u8 ((m : Int) % 128)] 5)
      have HM := Lib.hid hm
      have HLEN := Lib.hid hlen
      have HW := Lib.hid (wrapU64 ((m : Int) / 128) (by omega) (by omega))
      clear hl hrd hm h1 h0 hlen
      go_wp2_with (at_builtin; refine wpList_appv _ rfl (.tmp 15) (.tmp 16) 25 5 rfl ei w.heap.size _ _ _ hown1 rfl _ A _ c _ hrd1 rfl (bys_one _) (by simp only [maxLen]; omega) (by omega) (by have := hnw.size; simp; omega) ?_; intro v1 w1 hown2 hkp2 hat2)
      go_roundw
      case rel =>
        refine ⟨m / 128, m % 128 :: l, by rw [HW.out]; go_num, by have := HM.out; omega, hS, HLEN.out, by simp, ?_, ?_⟩
        · have e : (m % 128 :: l).length = 1 + l.length := by simp; omega
          rw [e]
          simpa [raw, bys] using hown2
        · exact ((hnw.alloc _).trans hkp2 fun i hi e => by
            simp [Value.ownBlock] at e
            have := hnw.size
            omega)
      case measure => simp [intOf]; rw [HW.out]; omega

set_option maxHeartbeats 800000 in
theorem refBytes_any (n : Int) (w : World) (h0 : 0 ≤ n) (h1 : n < 18446744073709551616) :
    Calls Try.prog 20 #[.int .u64 n] w fun e w' => ∃ v, e = .returned v ∧ w'.ownsRow w.heap.size 5 1 v (siz n.toNat) (bys (enc n.toNat)) ∧ Nw w w' := by
  have hs1 := siz_pos n.toNat
  have hs2 := siz_le (n := n.toNat) (by omega)
  obtain ⟨m, rfl⟩ := Int.eq_ofNat_of_zero_le h0
  rw [Int.toNat_natCast] at *
  have HD := Lib.hid (digits_any (m : Int) w h0 h1)
  rw [Int.toNat_natCast] at HD
  have HDL := Lib.hid (dgs_len m)
  generalize hS : siz m = S at *
  have HS := Lib.hid hS
  clear hS
  go_enter Try.func20, Try.ntmps20
  go_wp2_with (go_at_call 29; refine HD.out.mono ?_; rintro e w1 ⟨v1, rfl, hown1, hnw1⟩; obtain ⟨g, cap, rfl, hg, hlt⟩ := hown1.form hs1)
  go_loopw [4] (fun i wr => ∃ k : Nat, k + 1 ≤ S ∧ i = .int .i64 k ∧ wr.ownsRow w.heap.size 5 1 (.slice (some ⟨g, 0, none⟩) S cap) S (bys (mkd (dgs m) k)) ∧ Nw w wr)
    (fun i _ => S - (intOf i).toNat)
  case atStart => exact ⟨0, by omega, rfl, by rw [mkd_zero]; exact hown1, hnw1⟩
  case round =>
    obtain ⟨k, hk, rfl, hown, hnw⟩ := hrel
    by_cases hlt : k + 1 < S
    · have hkl : k < (dgs m).length := by rw [HDL.out]; omega
      have hd := dgs_lt m _ (List.getElem_mem hkl)
      have hc : wr.cell? ⟨g, k, none⟩ = some (.int .u8 (((dgs m)[k] : Nat) : Int)) := by
        rw [hown.cellAt k (by omega), bys, List.getElem?_map, mkd_get _ _ hkl]
        simp only [Option.map_some, bv, UInt8.toNat_ofNat']
        congr 2
        omega
      have hz := hown.frozenAt k
      have hst := Lib.hid (hown.stored k (bv (mk8 (dgs m)[k])))
      have HM := Lib.hid (mkd_set (dgs m) k hkl)
      have hmk := mk8_toNat hd
      generalize (dgs m)[k] = d at *
      have HV : Hid (bv (mk8 d) = .int .u8 ((d : Int) + 128)) := by
        show bv (mk8 d) = .int .u8 ((d : Int) + 128)
        unfold bv
        rw [hmk]
        congr 1
      clear hmk
      have hd0 : (0 : Int) ≤ (d : Int) := by omega
      have hd1 : (d : Int) < 128 := by omega
      have hlt' : (k : Int) < (S : Int) - 1 := by omega
      go_wp2
      go_roundw
      case rel =>
        have hst' := hst.out
        rw [HV.out] at hst'
        refine ⟨k + 1, by omega, by go_num, ?_, ?_⟩
        · rw [← HM.out, ← bys_set, HV.out]
          exact hst'.1
        · exact hnw.row hown (Kp.of_row (v := .slice (some ⟨g, 0, none⟩) S cap) hst'.2)
      case measure => simp [intOf]; omega
    · have hlt' : ¬ (k : Int) < (S : Int) - 1 := by omega
      go_wp2
      go_ret
      have e : k = S - 1 := by omega
      subst e
      refine ⟨_, rfl, ?_, hnw⟩
      have h3 := mkd_all m
      rw [HS.out] at h3
      rw [← h3]
      exact hown

end Go.Proofs.Ytcakjjbfhbldeaa
