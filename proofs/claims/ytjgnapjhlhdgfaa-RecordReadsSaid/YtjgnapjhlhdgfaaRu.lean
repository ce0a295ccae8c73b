/- Records: the program's cursor: bytes and spans. -/
import Derived.Test.YtjgnapjhlhdgfaaRt
import Derived.Test.YtjgnapjhlhdgfaaRn
set_option linter.unusedVariables false
set_option linter.unusedSimpArgs false
namespace Go.Proofs.Ytjgnapjhlhdgfaa
open Go.RowKit

theorem Kp.nil_nw {w w' : World} {n c : Nat} (h : Kp (fun g => (Value.slice none n c).ownBlock = some g) w w') : Nw w w' := h.mono fun g _ e => by simp [Value.ownBlock] at e

set_option maxRecDepth 100000 in
set_option maxHeartbeats 1600000 in
theorem curbytes_ok (bc : Nat) (ok : Nat → Prop) (xs : List UInt8) (m k : Nat) (w : World) (hcur : Cur w bc ok xs) (h : rdN xs = some (m, k)) (hm : m ≤ (xs.drop k).length) :
    Calls Try.prog 35 #[.pointer (some ⟨bc, 0, none⟩)] w fun e w' => ∃ v, e = .returned v ∧ w'.ownsRow w.heap.size 5 1 v m (bys ((xs.drop k).take m)) ∧
      Cur w' bc ok ((xs.drop k).drop m) ∧ Kp (fun g => g = bc) w w' := by
  have HN := Lib.hid (curnum_ok bc ok xs m k w hcur h)
  have eb := Try.elU8
  have hbl := hcur.lt
  have hnil : ∀ W : World, W.ownsRow W.heap.size 5 1 (.slice none 0 0) 0 (bys []) := fun W => World.ownsRow_nil _ _ _ _
  have HNIL := Lib.hid hnil
  clear hcur h hnil
  generalize xs.drop k = ys at *
  go_enter Try.func35, Try.ntmps35
  go_wp2_with fail
  refine HN.out.mono ?_
  rintro e w1 ⟨rfl, hcur1, hk1⟩
  have hfz := hcur1.frz
  have hcur1' := hcur1
  have hbl1 := hcur1.lt
  obtain ⟨A, c, hb, hr, hc, hn, hk0⟩ := hcur1
  have hcl : w1.cell? ⟨bc, 0, none⟩ = some (.slice A ys.length c) := cell_of_row w1 bc 0 _ _ _ hb
  have hmz : decide ((ys.length : Int) < (m : Int)) = false := by simp; omega
  have hmc : (m : Int) ≤ (c : Int) := by omega
  have hmc2 : (m : Int) ≤ (ys.length : Int) := by omega
  have htk := hr.take hm
  rw [Nat.mul_one, ← bys_take] at htk
  have HTK := Lib.hid htk
  have HCUR := Lib.hid hcur1'
  have hsz1 := hk1.size
  have hcut := hr.cut1 (k := m) (cap := c) hm hc
  rw [← bys_drop] at hcut
  clear htk hr hb hcur1'
  by_cases hck : c = m
  · rw [if_pos hck] at hcut
    have e0 : ys.length - m = 0 := by omega
    have HCUT := Lib.hid hcut
    clear hcut
    subst hck
    go_wp2_with (at_builtin; refine wpList_appv _ rfl (.const (.slice none 0 0)) (.tmp 21) 25 5 rfl eb w1.heap.size _ _ _ (HNIL.out w1) rfl _ A _ _ _ HTK.out rfl (bys_one _) (by simp only [maxLen]; omega) (by omega) (Nat.le_refl _) ?_; intro v2 w2 ho2 hk2 ha2; have hnw2 := Kp.nil_nw hk2; have hcl2 := (Kp.cell hnw2 (World.block_lt_of_cell? _ _ hcl) (fun e => e)).trans hcl; have hcu2 := HCUR.out.nw hnw2; have hfz2 := hcu2.frz)
    have hcs := hcu2.set (A := A) (c := 0) hm (HCUT.out.nw hnw2) (by omega)
    rw [e0] at hcs
    have HCS := Lib.hid hcs
    clear hcs hcu2
    go_ret
    refine ⟨v2, rfl, ?_, HCS.out.1, (hk1.nw hnw2).trans HCS.out.2 fun _ _ e => e⟩
    have ho3 := own_kp ho2 HCS.out.2 (fun g hg e => by have := own_ge ho2 hg; omega)
    rw [Nat.zero_add] at ho3
    exact own_base ho3 (fun g hg => by have := own_ge ho3 hg; omega)
  · rw [if_neg hck] at hcut
    have HCUT := Lib.hid hcut
    clear hcut
    go_wp2_with (at_builtin; refine wpList_appv _ rfl (.const (.slice none 0 0)) (.tmp 21) 25 5 rfl eb w1.heap.size _ _ _ (HNIL.out w1) rfl _ A _ _ _ HTK.out rfl (bys_one _) (by simp only [maxLen]; omega) (by omega) (Nat.le_refl _) ?_; intro v2 w2 ho2 hk2 ha2; have hnw2 := Kp.nil_nw hk2; have hcl2 := (Kp.cell hnw2 (World.block_lt_of_cell? _ _ hcl) (fun e => e)).trans hcl; have hcu2 := HCUR.out.nw hnw2; have hfz2 := hcu2.frz)
    have hcs := hcu2.set (A := A.map (fun a => a.add m)) (c := c - m) hm (HCUT.out.nw hnw2) (by omega)
    have HCS := Lib.hid hcs
    clear hcs hcu2
    go_ret
    refine ⟨v2, rfl, ?_, HCS.out.1, (hk1.nw hnw2).trans HCS.out.2 fun _ _ e => e⟩
    have ho3 := own_kp ho2 HCS.out.2 (fun g hg e => by have := own_ge ho2 hg; omega)
    rw [Nat.zero_add] at ho3
    exact own_base ho3 (fun g hg => by have := own_ge ho3 hg; omega)

set_option maxRecDepth 100000 in
set_option maxHeartbeats 1600000 in
theorem curbytes_bad (bc : Nat) (ok : Nat → Prop) (xs : List UInt8) (w : World) (hcur : Cur w bc ok xs) (h : ∀ m k, rdN xs = some (m, k) → (xs.drop k).length < m) :
    Calls Try.prog 35 #[.pointer (some ⟨bc, 0, none⟩)] w fun e w' => e = brk ∧ Kp (fun g => g = bc) w w' := by
  cases hq : rdN xs with
  | none =>
    have HN := Lib.hid (curnum_bad bc ok xs w hcur hq)
    clear hq h
    go_enter Try.func35, Try.ntmps35
    go_wp2_with fail
    refine HN.out.mono ?_
    rintro e w1 ⟨rfl, rfl⟩
    unfold brk
    go_wp2_with fail
    exact ⟨rfl, rfl, Kp.refl _ _⟩
  | some r =>
    obtain ⟨m, k⟩ := r
    have HN := Lib.hid (curnum_ok bc ok xs m k w hcur hq)
    have hlt := h m k hq
    clear hq h hcur
    generalize xs.drop k = ys at *
    go_enter Try.func35, Try.ntmps35
    go_wp2_with fail
    refine HN.out.mono ?_
    rintro e w1 ⟨rfl, hcur1, hk1⟩
    obtain ⟨A, c, hb, hr, hc, hn, hk0⟩ := hcur1
    have hcl : w1.cell? ⟨bc, 0, none⟩ = some (.slice A ys.length c) := cell_of_row w1 bc 0 _ _ _ hb
    have hmz : decide ((ys.length : Int) < (m : Int)) = true := by simp; omega
    clear hb hr
    go_wp2_with fail
    exact ⟨rfl, rfl, hk1⟩

end Go.Proofs.Ytjgnapjhlhdgfaa
