/- Records: the reference's reader: numbers. -/
import Derived.Test.YtjgnapjhlhdgfaaDoorRy
import Derived.Deep.QuietTactic
import Derived.BigQuiet
set_option linter.unusedVariables false
set_option linter.unusedSimpArgs false
namespace Go.Proofs.YtjgnapjhlhdgfaaDoor
open Go.RowKit

/-- A reader that stands at a place of these bytes. -/
structure Rdr (w : World) (rb : Nat) (A : Option Addr) (c : Nat) (ok : Nat → Prop) (xs : List UInt8) (k : Nat) (bad : Bool) : Prop where
  blk : w.heap[rb]? = some (.cells #[.slice A xs.length c, .int .i64 (k : Int), .bool bad] 123 (0, 0))
  rd : Rd w ok 1 A xs.length (bys xs)
  hc : xs.length ≤ c
  hn : xs.length ≤ 131072
  sep : ∀ g, ok g → g ≠ rb
  hk : k ≤ xs.length
section
variable {w w' : World} {rb : Nat} {A : Option Addr} {c : Nat} {ok : Nat → Prop} {xs : List UInt8} {k : Nat} {bad : Bool}
theorem Rdr.kp {S : Nat → Prop} (h : Rdr w rb A c ok xs k bad) (hk : Kp S w w') (h1 : ¬ S rb) (h2 : ∀ g, ok g → ¬ S g) : Rdr w' rb A c ok xs k bad :=
  ⟨blk_kp h.blk hk h1, h.rd.kp hk h2, h.hc, h.hn, h.sep, h.hk⟩
theorem Rdr.nw (h : Rdr w rb A c ok xs k bad) (hk : Nw w w') : Rdr w' rb A c ok xs k bad := h.kp hk (fun e => e) fun _ _ e => e
theorem Rdr.drewN (h : Rdr w rb A c ok xs k bad) (n : Nat) : Rdr (w.drewN n) rb A c ok xs k bad := ⟨h.blk, h.rd.drewN n, h.hc, h.hn, h.sep, h.hk⟩
theorem Rdr.cell (h : Rdr w rb A c ok xs k bad) : w.cell? ⟨rb, 0, none⟩ = some (.slice A xs.length c) ∧ w.cell? ⟨rb, 1, none⟩ = some (.int .i64 (k : Int)) ∧ w.cell? ⟨rb, 2, none⟩ = some (.bool bad) ∧ ∀ i, w.frozen? ⟨rb, i, none⟩ = false :=
  ⟨cell_of_row w rb 0 _ _ _ h.blk, cell_of_row w rb 1 _ _ _ h.blk, cell_of_row w rb 2 _ _ _ h.blk, fun i => by simp [World.frozen?, h.blk]⟩
theorem Rdr.lt (h : Rdr w rb A c ok xs k bad) : rb < w.heap.size := (Array.getElem?_eq_some_iff.1 h.blk).1
theorem Rdr.at_ (h : Rdr w rb A c ok xs k bad) {j : Nat} (hj : j ≤ xs.length) : Rdr (w.setCell ⟨rb, 1, none⟩ (.int .i64 (j : Int))) rb A c ok xs j bad ∧ Kp (fun g => g = rb) w (w.setCell ⟨rb, 1, none⟩ (.int .i64 (j : Int))) := by
  have hks : Kp (fun g => g = rb) w (w.setCell ⟨rb, 1, none⟩ (.int .i64 (j : Int))) := (Kp.refl (fun g => g = rb) w).setCell (p := ⟨rb, 1, none⟩) (fun _ => rfl) _
  exact ⟨⟨heap_setCell_same w rb 1 _ _ _ h.blk, h.rd.kp hks h.sep, h.hc, h.hn, h.sep, hj⟩, hks⟩
theorem Rdr.spoil (h : Rdr w rb A c ok xs k bad) : Rdr (w.setCell ⟨rb, 2, none⟩ (.bool true)) rb A c ok xs k true ∧ Kp (fun g => g = rb) w (w.setCell ⟨rb, 2, none⟩ (.bool true)) := by
  have hks : Kp (fun g => g = rb) w (w.setCell ⟨rb, 2, none⟩ (.bool true)) := (Kp.refl (fun g => g = rb) w).setCell (p := ⟨rb, 2, none⟩) (fun _ => rfl) _
  exact ⟨⟨heap_setCell_same w rb 2 _ _ _ h.blk, h.rd.kp hks h.sep, h.hc, h.hn, h.sep, h.hk⟩, hks⟩
end

theorem rdS_big : ∀ (t : List UInt8) (v i : Nat), 36028797018963968 ≤ v → (rdS t v i).2.2 ≠ 0 ∨ 4611686018427387903 < (rdS t v i).1
  | [], v, i, h => .inl (by simp [rdS])
  | b :: bs, v, i, h => by
    rw [rdS]
    split
    · exact .inl (by simp)
    · split
      · exact .inl (by simp)
      · split
        · exact .inr (by simp; omega)
        · exact rdS_big bs _ _ (by omega)
theorem shape0 {ys : List UInt8} (h0 : 0 < ys.length) (h1 : ys[0].toNat = 128) : rdS ys 0 0 = (0, 0, 11) := by
  match ys, h0, h1 with
  | b :: bs, _, h1 => exact rdS_shape h1
theorem rdN_no {xs : List UInt8} (h : (rdS xs 0 0).2.2 ≠ 0 ∨ 4611686018427387903 < (rdS xs 0 0).1) : rdN xs = none := by
  unfold rdN
  rw [if_neg]
  rintro ⟨h1, h2⟩
  rcases h with h | h
  · exact h h1
  · omega
theorem rdN_yes {xs : List UInt8} {n k : Nat} (h : rdS xs 0 0 = (n, k, 0)) (hn : n ≤ 4611686018427387903) : rdN xs = some (n, k) := by
  unfold rdN
  rw [h, if_pos ⟨rfl, hn⟩]

/-- What comes of reading a number. -/
def NumPost (w : World) (rb : Nat) (A : Option Addr) (c : Nat) (ok : Nat → Prop) (xs : List UInt8) (at_ : Nat) (e : Ending) (w' : World) : Prop :=
  ((∃ m k : Nat, rdN (xs.drop at_) = some (m, k) ∧ e = .returned (.int .i64 (m : Int)) ∧ Rdr w' rb A c ok xs (at_ + k) false) ∨
    (rdN (xs.drop at_) = none ∧ e = .returned (.int .i64 0) ∧ ∃ j, Rdr w' rb A c ok xs j true)) ∧ Kp (fun g => g = rb) w w'

set_option maxRecDepth 100000 in
set_option maxHeartbeats 6400000 in
theorem refget_any (rb : Nat) (A : Option Addr) (c : Nat) (ok : Nat → Prop) (xs : List UInt8) (at_ : Nat) (w : World) (h : Rdr w rb A c ok xs at_ false) :
    Calls Tryd.prog 72 #[.pointer (some ⟨rb, 0, none⟩)] w (NumPost w rb A c ok xs at_) := by
  have H := Lib.hid h
  have hI0 : RdInv (xs.drop at_) 0 0 := ⟨by rw [List.drop_zero], by omega⟩
  have hHN := h.hn
  have hK0 := h.hk
  clear h
  go_enter Tryd.func72, Tryd.ntmps72
  go_wp2_with fail
  go_loopw [3, 4] (fun x3 x4 wr => ∃ i v p : Nat, x3 = .int .i64 v ∧ x4 = .int .i64 i ∧ p = at_ + i ∧ p ≤ xs.length ∧ Hid (RdInv (xs.drop at_) i v) ∧ v ≤ 4611686018427387903 ∧ Hid (Rdr wr rb A c ok xs p false) ∧ Hid (i = 0 ∨ ¬ ∃ h : 0 < (xs.drop at_).length, (xs.drop at_)[0].toNat = 128) ∧ Kp (fun g => g = rb) w wr)
    (fun _ x _ => xs.length - (intOf x).toNat)
  case atStart => exact ⟨0, 0, at_, rfl, rfl, rfl, hK0, hI0, by omega, H, .inl rfl, Kp.refl _ _⟩
  case round =>
    obtain ⟨i, v, p, rfl, rfl, hp, hi, HI, hv, HR, HF0, hkw⟩ := hrel
    obtain ⟨hc0, hc1, hc2, hfz⟩ := HR.out.cell
    have hfz1 := hfz 1
    have hfz2 := hfz 2
    have HSP := Lib.hid HR.out.spoil
    have HP := Lib.hid hp
    clear hfz hp
    by_cases hlt : p < xs.length
    · obtain ⟨ad, rfl, _, hcb⟩ := HR.out.rd.byte hlt
      have hyl : i < (xs.drop at_).length := by rw [List.length_drop]; have := HP.out; omega
      have hyi : (xs.drop at_)[i] = xs[p] := by simp [HP.out]
      have hge : decide (xs.length ≤ p) = false := by simp; omega
      have h0 : (0 : Int) ≤ (p : Int) := by omega
      have h1 : (p : Int) < (xs.length : Int) := by omega
      have hx256 : xs[p].toNat < 256 := xs[p].toNat_lt
      have hY : Hid (∀ h : i < (xs.drop at_).length, (xs.drop at_)[i].toNat = xs[p].toNat) := fun h => by rw [hyi]
      obtain ⟨x, hx⟩ : ∃ x, x = xs[p].toNat := ⟨_, rfl⟩
      rw [← hx] at hcb hx256 hY
      have HYL := Lib.hid hyl
      clear hx hyi hyl
      by_cases h128 : i = 0 ∧ x = 128
      · obtain ⟨rfl, rfl⟩ := h128
        have hrd : rdN (xs.drop at_) = none := rdN_no (.inl (by
          have e : rdS (xs.drop at_) 0 0 = (0, 0, 11) := shape0 HYL.out (hY.out HYL.out)
          rw [e]; simp))
        have HRD := Lib.hid hrd
        clear hrd
        go_wp2_with fail
        go_big_quiet (fail)
        go_wp2_with fail
        go_ret
        exact ⟨.inr ⟨HRD.out, rfl, _, HSP.out.1.drewN _⟩, hkw.trans (Kp.drewN HSP.out.2 _) fun _ _ e => e⟩
      · have hf : Hid (¬ ∃ h : 0 < (xs.drop at_).length, (xs.drop at_)[0].toNat = 128) := by
          rintro ⟨h, e⟩
          by_cases hi0 : i = 0
          · subst hi0
            exact h128 ⟨rfl, by rw [← hY.out h]; exact e⟩
          · rcases HF0.out with h2 | h2
            · exact hi0 h2
            · exact h2 ⟨h, e⟩
        by_cases hbig : 36028797018963967 < v
        · have hrd : rdN (xs.drop at_) = none := rdN_no (by rw [HI.out.1]; exact rdS_big _ _ _ (by omega))
          have HRD := Lib.hid hrd
          have hv1 : (36028797018963967 : Int) < (v : Int) := by omega
          have hv2 : decide (36028797018963967 < v) = true := by simpa using hbig
          clear hbig hrd
          by_cases hi0 : i = 0
          · subst hi0
            have hx1 : ((x : Int) == 128) = false := by rw [beq_eq_false_iff_ne]; omega
            have hx2 : (x == 128) = false := by rw [beq_eq_false_iff_ne]; omega
            go_wp2_with fail
            go_big_quiet (fail)
            go_wp2_with fail
            go_ret
            exact ⟨.inr ⟨HRD.out, rfl, _, HSP.out.1.drewN _⟩, hkw.trans (Kp.drewN HSP.out.2 _) fun _ _ e => e⟩
          · have hi1 : ((i : Int) == 0) = false := by rw [beq_eq_false_iff_ne]; omega
            have hi2 : (i == 0) = false := by rw [beq_eq_false_iff_ne]; omega
            go_wp2_with fail
            go_big_quiet (fail)
            go_wp2_with fail
            go_ret
            exact ⟨.inr ⟨HRD.out, rfl, _, HSP.out.1.drewN _⟩, hkw.trans (Kp.drewN HSP.out.2 _) fun _ _ e => e⟩
        · have hv2 : decide (36028797018963967 < v) = false := by simpa using hbig
          have hvb : v ≤ 36028797018963967 := by omega
          have HAT : Hid (Rdr (wr.setCell ⟨rb, 1, none⟩ (.int .i64 ((p : Int) + 1))) rb (some ad) c ok xs (p + 1) false ∧ Kp (fun g => g = rb) wr (wr.setCell ⟨rb, 1, none⟩ (.int .i64 ((p : Int) + 1)))) := HR.out.at_ (j := p + 1) (by omega)
          clear hbig
          by_cases hx : x < 128
          · have hl := HI.out.last HYL.out (by omega) (by rw [hY.out]; exact hx)
            rw [hY.out] at hl
            have HRD := Lib.hid (rdN_yes hl (by omega))
            have hx' : (x : Int) < 128 := by omega
            clear hl
            by_cases hi0 : i = 0
            · subst hi0
              have hx1 : ((x : Int) == 128) = false := by rw [beq_eq_false_iff_ne]; omega
              have hx2 : (x == 128) = false := by rw [beq_eq_false_iff_ne]; omega
              go_wp2_with fail
              go_big_quiet (fail)
              go_wp2_with fail
              go_big_quiet (fail)
              go_wp2_with fail
              go_ret
              exact ⟨.inl ⟨_, _, HRD.out, congrArg Ending.returned (vint (by simp; omega)), by rw [show at_ + (0 + 1) = p + 1 from by have := HP.out; omega]; exact HAT.out.1.drewN _⟩, hkw.trans (Kp.drewN HAT.out.2 _) fun _ _ e => e⟩
            · have hi1 : ((i : Int) == 0) = false := by rw [beq_eq_false_iff_ne]; omega
              have hi2 : (i == 0) = false := by rw [beq_eq_false_iff_ne]; omega
              go_wp2_with fail
              go_big_quiet (fail)
              go_wp2_with fail
              go_big_quiet (fail)
              go_wp2_with fail
              go_ret
              exact ⟨.inl ⟨_, _, HRD.out, congrArg Ending.returned (vint (by simp; omega)), by rw [show at_ + (i + 1) = p + 1 from by have := HP.out; omega]; exact HAT.out.1.drewN _⟩, hkw.trans (Kp.drewN HAT.out.2 _) fun _ _ e => e⟩
          · have hs := HI.out.step HYL.out hf.out (by omega) (by rw [hY.out]; exact hx)
            rw [hY.out] at hs
            have HS := Lib.hid hs
            have hx' : ¬ (x : Int) < 128 := by omega
            clear hs
            by_cases hi0 : i = 0
            · subst hi0
              have hx1 : ((x : Int) == 128) = false := by rw [beq_eq_false_iff_ne]; omega
              have hx2 : (x == 128) = false := by rw [beq_eq_false_iff_ne]; omega
              go_wp2_with fail
              go_big_quiet (fail)
              go_wp2_with fail
              go_big_quiet (fail)
              go_wp2_with fail
              go_roundw
              case rel => exact ⟨0 + 1, 128 * v + (x - 128), p + 1, vint (by omega), by go_num, by have := HP.out; omega, by omega, HS, by omega, HAT.out.1.drewN _, .inr hf.out, hkw.trans (Kp.drewN HAT.out.2 _) fun _ _ e => e⟩
              case measure => simp [intOf]; omega
            · have hi1 : ((i : Int) == 0) = false := by rw [beq_eq_false_iff_ne]; omega
              have hi2 : (i == 0) = false := by rw [beq_eq_false_iff_ne]; omega
              have hip : i ≤ p := by have := HP.out; omega
              go_wp2_with fail
              go_big_quiet (fail)
              go_wp2_with fail
              go_big_quiet (fail)
              go_wp2_with fail
              go_roundw
              case rel => exact ⟨i + 1, 128 * v + (x - 128), p + 1, vint (by omega), by go_num, by have := HP.out; omega, by omega, HS, by omega, HAT.out.1.drewN _, .inr hf.out, hkw.trans (Kp.drewN HAT.out.2 _) fun _ _ e => e⟩
              case measure => simp [intOf]; omega
    · have hrd : rdN (xs.drop at_) = none := rdN_no (.inl (by rw [HI.out.short (by rw [List.length_drop]; have := HP.out; omega)]; simp))
      have hge : decide (xs.length ≤ p) = true := by simp; omega
      have hge' : (xs.length : Int) ≤ (p : Int) := by omega
      have HRD := Lib.hid hrd
      clear hrd
      go_wp2_with fail
      go_big_quiet (fail)
      go_wp2_with fail
      go_ret
      exact ⟨.inr ⟨HRD.out, rfl, _, HSP.out.1.drewN _⟩, hkw.trans (Kp.drewN HSP.out.2 _) fun _ _ e => e⟩

set_option maxRecDepth 100000 in
set_option maxHeartbeats 1600000 in
theorem refget_idle (rb : Nat) (A : Option Addr) (c : Nat) (ok : Nat → Prop) (xs : List UInt8) (at_ : Nat) (w : World) (h : Rdr w rb A c ok xs at_ true) :
    Calls Tryd.prog 72 #[.pointer (some ⟨rb, 0, none⟩)] w fun e w' => e = .returned (.int .i64 0) ∧ w = w' := by
  obtain ⟨hc0, hc1, hc2, hfz⟩ := h.cell
  go_enter Tryd.func72, Tryd.ntmps72
  go_wp2_with fail
  go_loopw [4] (fun x4 wr => x4 = .int .i64 0 ∧ w = wr) (fun _ _ => 0)
  case atStart => exact ⟨rfl, rfl⟩
  case round =>
    obtain ⟨rfl, rfl⟩ := hrel
    go_wp2_with fail
    go_ret
    exact ⟨rfl, rfl⟩

end Go.Proofs.YtjgnapjhlhdgfaaDoor
