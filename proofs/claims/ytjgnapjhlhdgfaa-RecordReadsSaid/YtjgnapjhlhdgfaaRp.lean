/- Records: are the marks kept; a record's lists are written over. -/
import Derived.Test.YtjgnapjhlhdgfaaRn
set_option linter.unusedVariables false
set_option linter.unusedSimpArgs false
namespace Go.Proofs.Ytjgnapjhlhdgfaa
open Go.RowKit

set_option maxRecDepth 100000 in
set_option maxHeartbeats 6400000 in
theorem kept_any (a : Rc) (gS gD bD bS : Nat) (sp : List (Int × Int)) (dt : List UInt8) (w : World)
    (hD : w.ownsRow bD 5 1 (.slice (some ⟨gD, 0, none⟩) (a.dn + 2) (a.dn + 2)) (a.dn + 2) (bys (dt ++ [177, 178])))
    (hS : w.ownsRow bS 47 2 (.slice (some ⟨gS, 0, none⟩) (a.sn + 2) (a.sn + 2)) (a.sn + 2) (sps (sp ++ [(-77, 0), (-78, 0)])))
    (hn : a.sn ≤ 8796093022000) (hd : a.dn ≤ 140737488351232) :
    Calls Try.prog 14 #[(a.at_ (some ⟨gS, 0, none⟩) (a.sn + 2) (some ⟨gD, 0, none⟩) (a.dn + 2)).val] w fun e w' => e = .returned (.bool true) ∧ Nw w w' := by
  have hdl : dt.length = a.dn := by have := hD.1; rw [bys_len] at this; simp at this; omega
  have hsl : sp.length = a.sn := by have := hS.1; rw [sps_len] at this; simp at this; omega
  have hgD : gD < w.heap.size := own_lt hD rfl
  have hgS : gS < w.heap.size := own_lt hS rfl
  have hc1 := own_at hD (k := a.dn) (v := .int .u8 177) (by rw [bys_app, show a.dn = (bys dt).length from by rw [bys_len, hdl], at_app0]; rfl)
  have hc2 := own_at hD (k := a.dn + 1) (v := .int .u8 178) (by rw [bys_app, show a.dn = (bys dt).length from by rw [bys_len, hdl], at_app]; rfl)
  have hc3 := own_atn hS (k := a.sn * 2) (v := .int .i64 (-77)) (by rw [sps_app, show a.sn * 2 = (sps sp).length from by rw [sps_len, hsl], at_app0]; rfl)
  have hc4 := own_atn hS (k := (a.sn + 1) * 2) (v := .int .i64 (-78)) (by rw [sps_app, show (a.sn + 1) * 2 = (sps sp).length + 2 from by rw [sps_len, hsl]; omega, at_app]; rfl)
  show Calls Try.prog 14 #[.agg #[.int .i64 a.k, .int .i64 a.o, .int .i64 a.n, .int .i64 a.p, .int .i64 a.v, .int .i64 a.f, .int .i64 a.r, .int .i64 a.z, .int .i64 a.h, .slice (some ⟨gS, 0, none⟩) a.sn (a.sn + 2), .slice (some ⟨gD, 0, none⟩) a.dn (a.dn + 2)]] w _
  clear hD hS hdl hsl
  go_enter Try.func14, Try.ntmps14
  go_wp2
  go_ret
  exact ⟨rfl, (Kp.refl _ _).alloc _⟩

theorem rep_bys (k : Nat) (m : UInt8) (l : List UInt8) (hk : k < l.length) : (bys (List.replicate k m ++ l.drop k)).set k (bv m) = bys (List.replicate (k + 1) m ++ l.drop (k + 1)) := by
  rw [bys_set]
  congr 1
  have := set_app0 (List.replicate k m) m (l.drop k)
  rw [List.length_replicate] at this
  rw [this, List.drop_eq_getElem_cons hk, List.set_cons_zero, List.replicate_succ', List.append_assoc]
  rfl
theorem rep_sps (k : Nat) (m : Int × Int) (l : List (Int × Int)) (hk : k < l.length) : ((sps (List.replicate k m ++ l.drop k)).set (k * 2) (.int .i64 m.1)).set (k * 2 + 1) (.int .i64 m.2) = sps (List.replicate (k + 1) m ++ l.drop (k + 1)) := by
  have hl : (sps (List.replicate k m)).length = k * 2 := by rw [sps_len, List.length_replicate]
  rw [sps_app, ← hl, set_app0, set_app, List.drop_eq_getElem_cons hk, List.replicate_succ', List.append_assoc, sps_app]
  rfl
theorem own_some {w : World} {base e size n c : Nat} {A : Option Addr} {xs : List Value} (h : w.ownsRow base e size (.slice A n c) n xs) (hn : 0 < n) : ∃ g, A = some ⟨g, 0, none⟩ := by
  obtain ⟨g, cap, hv, _⟩ := h.form hn
  injection hv with hv
  exact ⟨g, hv⟩

set_option maxRecDepth 100000 in
set_option maxHeartbeats 6400000 in
theorem spoil_any (a : Rc) (m : Int) (bD bS : Nat) (sp : List (Int × Int)) (dt : List UInt8) (w : World)
    (hD : w.ownsRow bD 5 1 (.slice a.D a.dn a.dc) a.dn (bys dt))
    (hS : w.ownsRow bS 47 2 (.slice a.S a.sn a.sc) a.sn (sps sp))
    (hn : a.sn ≤ 8796093022100) (hd : a.dn ≤ 140737488351300) (hm0 : 0 ≤ m) (hm1 : m ≤ 4611686018427387903) :
    Calls Try.prog 15 #[a.val, .int .i64 m] w fun e w' => e = .returned (.tuple #[]) ∧
      w'.ownsRow bD 5 1 (.slice a.D a.dn a.dc) a.dn (bys (List.replicate a.dn (UInt8.ofNat m.toNat))) ∧
      w'.ownsRow bS 47 2 (.slice a.S a.sn a.sc) a.sn (sps (List.replicate a.sn (-1 - m, 0))) ∧
      Kp (fun g => (Value.slice a.D a.dn a.dc).ownBlock = some g ∨ (Value.slice a.S a.sn a.sc).ownBlock = some g) w w' := by
  have hdl : dt.length = a.dn := by have := hD.1; rw [bys_len] at this; omega
  have hsl : sp.length = a.sn := by have := hS.1; rw [sps_len] at this; omega
  obtain ⟨S, hSe⟩ : ∃ S, a.S = S := ⟨_, rfl⟩
  obtain ⟨D, hDe⟩ : ∃ D, a.D = D := ⟨_, rfl⟩
  have hval : a.val = .agg #[.int .i64 a.k, .int .i64 a.o, .int .i64 a.n, .int .i64 a.p, .int .i64 a.v, .int .i64 a.f, .int .i64 a.r, .int .i64 a.z, .int .i64 a.h, .slice S a.sn a.sc, .slice D a.dn a.dc] := by rw [← hSe, ← hDe]; rfl
  rw [hval]
  rw [hDe] at hD ⊢
  rw [hSe] at hS ⊢
  clear hval hDe hSe
  have hlD : ∀ g, (Value.slice D a.dn a.dc).ownBlock = some g → g < w.heap.size := fun g hg => own_lt hD hg
  have hlS : ∀ g, (Value.slice S a.sn a.sc).ownBlock = some g → g < w.heap.size := fun g hg => own_lt hS hg
  have hb0 := own_lit (e := 27) (size := 1) (base := w.heap.size) w #[.int .i64 a.k, .int .i64 a.o, .int .i64 a.n, .int .i64 a.p, .int .i64 a.v, .int .i64 a.f, .int .i64 a.r, .int .i64 a.z, .int .i64 a.h, .slice S a.sn a.sc, .slice D a.dn a.dc] 11 (by simp [maxLen]) rfl (Nat.le_refl _)
  have hn0 : Nw w (w.alloc (.cells #[.int .i64 a.k, .int .i64 a.o, .int .i64 a.n, .int .i64 a.p, .int .i64 a.v, .int .i64 a.f, .int .i64 a.r, .int .i64 a.z, .int .i64 a.h, .slice S a.sn a.sc, .slice D a.dn a.dc] 27)) := (Kp.refl _ _).alloc _
  have hD1 := own_nw hD hn0
  have hS1 := own_nw hS hn0
  obtain ⟨W1, hW1⟩ : ∃ W1, W1 = w.alloc (.cells #[.int .i64 a.k, .int .i64 a.o, .int .i64 a.n, .int .i64 a.p, .int .i64 a.v, .int .i64 a.f, .int .i64 a.r, .int .i64 a.z, .int .i64 a.h, .slice S a.sn a.sc, .slice D a.dn a.dc] 27) := ⟨_, rfl⟩
  rw [← hW1] at hb0 hn0 hD1 hS1
  have HB0 := Lib.hid hb0
  have HD1 := Lib.hid hD1
  have HS1 := Lib.hid hS1
  have HLD := Lib.hid hlD
  have HLS := Lib.hid hlS
  have HN0 := Lib.hid hn0
  have HDL := Lib.hid hdl
  have HSL := Lib.hid hsl
  have HW1 := Lib.hid hW1
  have hmb : IntKind.u8.wrap m = ((UInt8.ofNat m.toNat).toNat : Int) := by
    rw [IntKind.wrap_u8, UInt8.toNat_ofNat']
    omega
  clear hb0 hn0 hD hS hD1 hS1 hlD hlS hdl hsl
  generalize UInt8.ofNat m.toNat = mb at *
  go_enter Try.func15, Try.ntmps15
  go_wp2
  rw [← hW1]
  clear hW1
  go_loopw [4] (fun i wr => ∃ k : Nat, k ≤ a.dn ∧ i = .int .i64 k ∧ wr.ownsRow bD 5 1 (.slice D a.dn a.dc) a.dn (bys (List.replicate k mb ++ dt.drop k)) ∧ Kp (fun g => (Value.slice D a.dn a.dc).ownBlock = some g) W1 wr) (fun i _ => a.dn - (intOf i).toNat)
  case atStart => exact ⟨0, by omega, rfl, by simpa using HD1.out, Kp.refl _ _⟩
  case round =>
    obtain ⟨k, hk, rfl, how, hkp⟩ := hrel
    have hbr := own_kp HB0.out hkp (fun g e h => by have := HLD.out _ h; simp [Value.ownBlock] at e; omega)
    have hp9 := own_at hbr (k := 9) rfl
    have hp10 := own_at hbr (k := 10) rfl
    by_cases hlt : k < a.dn
    · obtain ⟨g, rfl⟩ := own_some how (by omega)
      have hst := how.stored k (bv mb)
      rw [rep_bys k _ _ (by rw [HDL.out]; exact hlt)] at hst
      have hfz := how.frozenAt k
      have hlen := how.1
      rw [Nat.mul_one] at hlen
      have hcl := own_at how (List.getElem?_eq_getElem (l := bys (List.replicate k mb ++ dt.drop k)) (i := k) (by omega))
      generalize (bys (List.replicate k mb ++ dt.drop k))[k]'(by omega) = vv at hcl
      unfold bv at hst
      have HST := Lib.hid hst
      clear hst hlen how
      have h1 : (k : Int) < (a.dn : Int) := by omega
      have h0 : (0 : Int) ≤ (k : Int) := by omega
      go_wp2
      go_roundw
      case rel => exact ⟨k + 1, by omega, by go_num, HST.out.1, hkp.trans (Kp.of_grown HST.out.2) fun i hi e => by injection e with e; rw [e]; rfl⟩
      case measure => simp [intOf]; omega
    · have hkd : k = a.dn := by omega
      subst hkd
      rw [List.drop_of_length_le (by rw [HDL.out]; exact Nat.le_refl _), List.append_nil] at how
      have HDW := Lib.hid how
      have HBR := Lib.hid hbr
      have hSr := own_kp HS1.out hkp (fun g hg => own_ty HS1.out HD1.out (by decide) hg)
      have HSR := Lib.hid hSr
      obtain ⟨W2, rfl⟩ : ∃ W2 : World, W2 = wr := ⟨_, rfl⟩
      clear how hbr hSr
      go_wp2
      clear hp9 hp10
      go_loopw [5] (fun i wr => ∃ k : Nat, k ≤ a.sn ∧ i = .int .i64 k ∧ wr.ownsRow bS 47 2 (.slice S a.sn a.sc) a.sn (sps (List.replicate k (-1 - m, 0) ++ sp.drop k)) ∧ Kp (fun g => (Value.slice S a.sn a.sc).ownBlock = some g) W2 wr) (fun i _ => a.sn - (intOf i).toNat)
      case atStart => exact ⟨0, by omega, rfl, by simpa using HSR.out, Kp.refl _ _⟩
      case round =>
        obtain ⟨k, hk, rfl, how, hkq⟩ := hrel
        have hbr := own_kp HBR.out hkq (fun g e h => by have := HLS.out _ h; simp [Value.ownBlock] at e; omega)
        have hp9 := own_at hbr (k := 9) rfl
        have hp10 := own_at hbr (k := 10) rfl
        by_cases hlt : k < a.sn
        · obtain ⟨g, rfl⟩ := own_some how (by omega)
          have hst := how.stored (k * 2) (.int .i64 (-1 - m))
          have hst2 := hst.1.stored (k * 2 + 1) (.int .i64 0)
          have hrs := rep_sps k (-1 - m, 0) sp (by rw [HSL.out]; exact hlt)
          simp only at hrs
          rw [hrs] at hst2
          have hlen := how.1
          have hfz := how.frozenAt (k * 2)
          have hfz2 := hst.1.frozenAt (k * 2 + 1)
          have hcl := own_atn how (List.getElem?_eq_getElem (l := sps (List.replicate k (-1 - m, 0) ++ sp.drop k)) (i := k * 2) (by omega))
          have hcl2 := own_atn hst.1 (List.getElem?_eq_getElem (l := (sps (List.replicate k (-1 - m, 0) ++ sp.drop k)).set (k * 2) (.int .i64 (-1 - m))) (i := k * 2 + 1) (by rw [List.length_set]; omega))
          generalize (sps (List.replicate k (-1 - m, 0) ++ sp.drop k))[k * 2]'(by omega) = vv at hcl
          generalize ((sps (List.replicate k (-1 - m, 0) ++ sp.drop k)).set (k * 2) (.int .i64 (-1 - m)))[k * 2 + 1]'(by rw [List.length_set]; omega) = vv2 at hcl2
          have HST := Lib.hid hst2
          have HST1 := Lib.hid hst
          clear hst hst2 hlen how hrs
          have h1 : (k : Int) < (a.sn : Int) := by omega
          have h0 : (0 : Int) ≤ (k : Int) := by omega
          go_wp2
          go_roundw
          case rel => exact ⟨k + 1, by omega, by go_num, HST.out.1, hkq.trans ((Kp.of_grown HST1.out.2).trans (Kp.of_grown HST.out.2) fun _ _ e => e) fun i hi e => by injection e with e; rw [e]; rfl⟩
          case measure => simp [intOf]; omega
        · have hkd : k = a.sn := by omega
          subst hkd
          rw [List.drop_of_length_le (by rw [HSL.out]; exact Nat.le_refl _), List.append_nil] at how
          have HSW := Lib.hid how
          clear how hbr
          go_wp2
          go_end0
          refine ⟨rfl, own_kp HDW.out hkq (fun g hg => own_ty HDW.out HSR.out (by decide) hg), HSW.out, ?_⟩
          refine HN0.out.kp0 ((hkp.mono fun k _ e => .inl e).trans (hkq.mono fun k _ e => .inr e) fun _ _ e => e)

end Go.Proofs.Ytjgnapjhlhdgfaa
