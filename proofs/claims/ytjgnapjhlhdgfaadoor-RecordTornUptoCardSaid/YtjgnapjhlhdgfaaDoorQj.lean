/- Records: the law's Owned. -/
import Derived.Test.YtjgnapjhlhdgfaaDoorQi
set_option linter.unusedVariables false
set_option linter.unusedSimpArgs false
namespace Go.Proofs.YtjgnapjhlhdgfaaDoor
open Go.RowKit

def Rc.vD (a : Rc) : Value := .slice a.D a.dn a.dc
def Rc.vS (a : Rc) : Value := .slice a.S a.sn a.sc
theorem Tryd.elLB : Elem Tryd.prog 88 22 (.slice none 0 0) 1 24 := ⟨Tryd.underlying88, by kernel_rfl, rfl, by omega⟩
theorem Tryd.elLS : Elem Tryd.prog 89 34 (.slice none 0 0) 1 24 := ⟨Tryd.underlying89, by kernel_rfl, rfl, by omega⟩
theorem MD_val (i : Nat) : (.int .u8 ((i : Int) % 256) : Value) = bv (UInt8.ofNat i) := by
  unfold bv
  congr 1

set_option maxRecDepth 100000 in
set_option maxHeartbeats 12800000 in
theorem rowned_any (A : Option Addr) (N c : Nat) (okH : Nat → Prop) (l : List Rc) (w : World) (hr : Rd w okH 11 A N (rcs l)) (hN : N ≤ 100000000)
    (hsD : Sep (l.map Rc.vD)) (hsS : Sep (l.map Rc.vS)) (hoD : ∀ a ∈ l, ∃ xs, w.ownsRow 0 5 1 a.vD a.dn (bys xs)) (hoS : ∀ a ∈ l, ∃ xs, w.ownsRow 0 56 2 a.vS a.sn (sps xs))
    (hl : ∀ a ∈ l, a.dn ≤ 1000000000 ∧ a.sn ≤ 1000000000) (hok : ∀ g, okH g → ¬ (Sof (l.map Rc.vD) g ∨ Sof (l.map Rc.vS) g)) :
    Calls Tryd.prog 26 #[.slice A N c] w fun e w' => e = .returned (.bool true) ∧ Kp (fun g => Sof (l.map Rc.vD) g ∨ Sof (l.map Rc.vS) g) w w' := by
  have hln : l.length = N := by have := hr.1; rw [rcs_len] at this; omega
  subst hln
  have hmD : ∀ (i : Nat) (a : Rc), l[i]? = some a → (l.map Rc.vD)[i]? = some a.vD := fun i a h => by rw [List.getElem?_map, h]; rfl
  have hmS : ∀ (i : Nat) (a : Rc), l[i]? = some a → (l.map Rc.vS)[i]? = some a.vS := fun i a h => by rw [List.getElem?_map, h]; rfl
  have hbD : ∀ (i : Nat) (v : Value), (l.map Rc.vD)[i]? = some v → ∃ a : Rc, l[i]? = some a ∧ v = a.vD := fun i v h => by
    rw [List.getElem?_map] at h
    cases hx : l[i]? with
    | none => rw [hx] at h; cases h
    | some a => rw [hx] at h; injection h with h; exact ⟨a, rfl, h.symm⟩
  have hbS : ∀ (i : Nat) (v : Value), (l.map Rc.vS)[i]? = some v → ∃ a : Rc, l[i]? = some a ∧ v = a.vS := fun i v h => by
    rw [List.getElem?_map] at h
    cases hx : l[i]? with
    | none => rw [hx] at h; cases h
    | some a => rw [hx] at h; injection h with h; exact ⟨a, rfl, h.symm⟩
  have O0 : Hid (RO1 5 56 w w (l.map Rc.vD) (l.map Rc.vS) 0) :=
    ⟨Kp.refl _ _, fun j v hj => by omega, fun j v _ hv => by obtain ⟨a, h1, rfl⟩ := hbD j v hv; exact hoD a (List.mem_of_getElem? h1), fun j v hj => by omega, fun j v _ hv => by obtain ⟨a, h1, rfl⟩ := hbS j v hv; exact hoS a (List.mem_of_getElem? h1)⟩
  have HBD := Lib.hid hbD
  have HBS := Lib.hid hbS
  have HMD := Lib.hid hmD
  have HMS := Lib.hid hmS
  have HSD := Lib.hid hsD
  have HSS := Lib.hid hsS
  have HL := Lib.hid hl
  have HOK := Lib.hid hok
  have HR := Lib.hid hr
  clear hsD hsS hl hok hoD hoS hr hmD hmS hbD hbS
  generalize l.map Rc.vD = vsD at *
  generalize l.map Rc.vS = vsS at *
  go_enter Tryd.func26, Tryd.ntmps26
  go_wp2_with fail
  go_loopw [3] (fun q wr => ∃ i : Nat, i ≤ l.length ∧ q = .int .i64 i ∧ Hid (RO1 5 56 w wr vsD vsS i)) (fun q _ => l.length - (intOf q).toNat)
  case atStart => exact ⟨0, by omega, rfl, O0⟩
  case round =>
    obtain ⟨i, hi, rfl, hO⟩ := hrel
    by_cases hlt : i < l.length
    · have hrw := HR.out.kp hO.out.kp HOK.out
      obtain ⟨ad, rfl, hoka, hcs, _, _⟩ := hrw.rec_ hlt
      have hli : l[i]? = some l[i] := List.getElem?_eq_getElem hlt
      have hlv := HL.out _ (List.getElem_mem hlt)
      generalize l[i] = a at *
      have hvD := HMD.out i a hli
      have hvS := HMS.out i a hli
      obtain ⟨xD, hxD⟩ := hO.out.lD i _ (Nat.le_refl _) hvD
      obtain ⟨xS, hxS⟩ := hO.out.lS i _ (Nat.le_refl _) hvS
      have HSP := Lib.hid (spoil_any a (i : Int) 0 0 xS xD wr hxD hxS (by omega) (by omega) (by omega) (by omega))
      have HCS := Lib.hid hcs
      have HVD := Lib.hid hvD
      have HVS := Lib.hid hvS
      have h0 : (0 : Int) ≤ (i : Int) := by omega
      have h1 : (i : Int) < (l.length : Int) := by omega
      clear hrw hcs hvD hvS hxD hxS hli
      go_wp2_with ((with_reducible refine opAt 22 ?_); (refine wpList_load_at rfl 36 _ rfl (ad.add (i * 11)) rfl a.cells _ HCS.out Tryd.underlying36 rfl (by kernel_rfl) ?_))
      refine HSP.out.mono ?_
      rintro e w3 ⟨rfl, hD3, hS3, hk3⟩
      rw [Int.toNat_natCast, reps_MD] at hD3
      rw [reps_MS] at hS3
      have hO3 := Lib.hid (hO.out.step (by decide) HVD.out HVS.out HSD.out HSS.out hk3 hD3 hS3)
      clear hO HSP hD3 hS3 hk3
      go_wp2_with fail
      go_roundw
      case rel => exact ⟨i + 1, by omega, by go_num, hO3⟩
      case measure => simp [intOf]; omega
    · have hi' : i = l.length := by omega
      subst hi'
      have hD : ∀ (j : Nat) (v : Value), vsD[j]? = some v → Full wr 5 (MD j) v (lenIn v) := fun j v hv => by
        obtain ⟨a, h1, _⟩ := HBD.out j v hv
        exact hO.out.dD j v (List.getElem?_eq_some_iff.1 h1).1 hv
      have hS : ∀ (j : Nat) (v : Value), vsS[j]? = some v → Full wr 56 (MS j) v (lenIn v) := fun j v hv => by
        obtain ⟨a, h1, _⟩ := HBS.out j v hv
        exact hO.out.dS j v (List.getElem?_eq_some_iff.1 h1).1 hv
      have HD := Lib.hid hD
      have HS := Lib.hid hS
      have HKP0 := Lib.hid hO.out.kp
      have eb := Tryd.elU8
      have es := Tryd.elSp
      have eLB := Tryd.elLB
      have eLS := Tryd.elLS
      obtain ⟨w2, rfl⟩ : ∃ w2 : World, w2 = wr := ⟨_, rfl⟩
      have HR2 := Lib.hid (HR.out.kp HKP0.out HOK.out)
      have hII : Hid (RO2 5 56 w2 w2 vsD vsS [] [] 0) := RO2.start hD hS
      have h1 : ¬ (l.length : Int) < (l.length : Int) := by omega
      clear hD hS hO
      go_wp2_with fail
      clear h1
      go_loopw [4, 5, 6] (fun dl sl q wr => ∃ (i : Nat) (lsD lsS : List Value), i ≤ l.length ∧ q = .int .i64 i ∧ Hid (RO2 5 56 w2 wr vsD vsS lsD lsS i) ∧ wr.ownsRow w2.heap.size 22 1 dl i lsD ∧ wr.ownsRow w2.heap.size 34 1 sl i lsS) (fun _ _ q _ => l.length - (intOf q).toNat)
      case atStart => exact ⟨0, [], [], by omega, rfl, hII, World.ownsRow_nil _ _ _ _, World.ownsRow_nil _ _ _ _⟩
      case round =>
        obtain ⟨i, lsD, lsS, hi, rfl, hO, hlD, hlS⟩ := hrel
        by_cases hlt : i < l.length
        · have hrw := HR2.out.kp hO.out.kp HOK.out
          obtain ⟨ad, rfl, hoka, _, hc9, hc10⟩ := hrw.rec_ hlt
          have hli : l[i]? = some l[i] := List.getElem?_eq_getElem hlt
          have hlv := HL.out _ (List.getElem_mem hlt)
          generalize l[i] = a at *
          have hvD := HMD.out i a hli
          have hvS := HMS.out i a hli
          have hxD := hO.out.rD i _ hvD
          have hxS := hO.out.rS i _ hvS
          have HVD := Lib.hid hvD
          have HVS := Lib.hid hvS
          have h0 : (0 : Int) ≤ (i : Int) := by omega
          have h1 : (i : Int) < (l.length : Int) := by omega
          obtain ⟨w1, rfl⟩ : ∃ w1 : World, w1 = wr := ⟨_, rfl⟩
          have HLD := Lib.hid hlD
          have HLS := Lib.hid hlS
          have hxD' : Full w1 5 (MD i) (.slice a.D a.dn a.dc) a.dn := hxD
          have hxS' : Full w1 56 (MS i) (.slice a.S a.sn a.sc) a.sn := hxS
          clear hrw hvD hvS hli hxD hxS hlD hlS
          go_wp2_with fail
          go_loopw [7, 8, 9] (fun dv sv q wr => ∃ k : Nat, k ≤ 9 ∧ q = .int .i64 k ∧ Full wr 5 (MD i) dv (a.dn + k) ∧ Full wr 5 (MD i) a.vD a.dn ∧ Full wr 56 (MS i) sv (a.sn + k) ∧ Full wr 56 (MS i) a.vS a.sn ∧
              Kp (fun g => a.vD.ownBlock = some g ∨ a.vS.ownBlock = some g) w1 wr ∧ OwnAt w1 a.vD dv ∧ OwnAt w1 a.vS sv)
            (fun _ _ q _ => 9 - (intOf q).toNat)
          case atStart => exact ⟨0, by omega, rfl, hxD', hxD', hxS', hxS', Kp.refl _ _, OwnAt.refl _ _, OwnAt.refl _ _⟩
          case round =>
            obtain ⟨k, hk, rfl, hgD, hfD, hgS, hfS, hkp, hatD, hatS⟩ := hrel
            by_cases hk9 : k < 9
            · have hk1 : (k : Int) < 9 := by omega
              have hnA : Nw wr (wr.alloc (.cells #[.int .u8 ((i : Int) % 256)] 5)) := (Kp.refl _ _).alloc _
              have hgD1 := hgD.nw hnA
              have hfD1 := hfD.nw hnA
              have hgS1 := hgS.nw hnA
              have hfS1 := hfS.nw hnA
              have hsrc : Rd (wr.alloc (.cells #[.int .u8 ((i : Int) % 256)] 5)) (fun _ => True) 1 (some ⟨wr.heap.size, 0, none⟩) 1 (reps 1 (MD i)) := by
                rw [MD_val]
                exact (Rd.of_own (own_lit (e := 5) (size := 1) (base := 0) wr #[bv (UInt8.ofNat i)] 1 (by simp [maxLen]) rfl (Nat.zero_le _))).more fun _ _ => trivial
              have hsz := hkp.size
              have hL1 : ∀ W : World, Rd (W.alloc (.cells #[.int .i64 (-1 - (i : Int)), .int .i64 0] 56)) (fun _ => True) 2 (some ⟨W.heap.size, 0, none⟩) 1 (reps 1 (MS i)) := fun W =>
                (Rd.of_own (own_lit (e := 56) (size := 2) (base := 0) W #[.int .i64 (-1 - (i : Int)), .int .i64 0] 1 (by simp [maxLen]) rfl (Nat.zero_le _))).more fun _ _ => trivial
              have hn1 : ∀ W : World, Nw W (W.alloc (.cells #[.int .i64 (-1 - (i : Int)), .int .i64 0] 56)) := fun W => (Kp.refl _ _).alloc _
              have HL1 := Lib.hid hL1
              have HN1 := Lib.hid hn1
              clear hL1 hn1
              go_wp2_with (first
                | (at_builtin; (refine wpList_appS _ rfl (.tmp 45) (.tmp 48) 22 5 rfl eb 0 _ _ _ hgD1 rfl _ _ 1 1 _ hsrc rfl (reps_one _ _ (MD_one i)) (by simp only [maxLen]; omega) (by omega) (Nat.zero_le _) ?_; intro v3 w3 hown3 happ; have hgS3 := (own_kp hgS1 happ.kp (fun g hg => own_ty hgS1 hgD1 (by decide) hg)); have hgS4 := own_nw hgS3 (HN1.out w3); have hsrc2 := HL1.out w3))
                | (at_builtin; (refine wpList_appS _ rfl (.tmp 50) (.tmp 54) 34 56 rfl es 0 _ _ _ hgS4 rfl _ _ 1 1 _ hsrc2 rfl (reps_one _ _ (MS_one i)) (by simp only [maxLen]; omega) (by omega) (Nat.zero_le _) ?_; intro v5 w5 hown5 happ5)))
              go_roundw
              case rel =>
                rw [reps_add] at hown3 hown5
                have hF3 : Full w3 5 (MD i) v3 (a.dn + k + 1) := hown3
                have hF5 : Full w5 56 (MS i) v5 (a.sn + k + 1) := hown5
                have hfD3 := hfD1.append hgD1 hF3 (by simp [MD]) happ (by omega)
                have hfS3 : Full w3 56 (MS i) a.vS a.sn := own_kp hfS1 happ.kp (fun g hg => own_ty hfS1 hgD1 (by decide) hg)
                have hfS4 := hfS3.nw (HN1.out w3)
                have hfS5 := hfS4.append (show Full _ 56 (MS i) _ (a.sn + k) from hgS4) hF5 (by simp [MS]) happ5 (by omega)
                have hF4 := hF3.nw (HN1.out w3)
                have hfD4 := hfD3.nw (HN1.out w3)
                have hF4' : Full w5 5 (MD i) v3 (a.dn + k + 1) := own_kp hF4 happ5.kp (fun g hg => own_ty hF4 hgS4 (by decide) hg)
                have hfD5 : Full w5 5 (MD i) a.vD a.dn := own_kp hfD4 happ5.kp (fun g hg => own_ty hfD4 hgS4 (by decide) hg)
                have hk3 := hatD.kp (Kp.alloc hkp _) (fun _ e => .inl e) happ.kp
                have hz3 := hk3.size
                have hat3 := hatS.trans (W1 := w3) (.inl rfl) hz3
                have hk5 := hatS.kp (Kp.nw hk3 (HN1.out w3)) (fun _ e => .inr e) happ5.kp
                exact ⟨k + 1, by omega, by go_num, hF4', hfD5, hF5, hfS5, hk5, hatD.trans happ.at_ (by simp; omega), hatS.trans happ5.at_ (by simp; omega)⟩
              case measure => simp [intOf]; omega
            · have hkk : k = 9 := by omega
              subst hkk
              have hk1 : ¬ ((9 : Nat) : Int) < 9 := by omega
              have hlD3 := own_kp HLD.out hkp (fun g hg e => by
                have h1 := own_ge HLD.out hg
                rcases e with e | e
                · have h2 := (HD.out i _ HVD.out).lt e
                  omega
                · have h2 := (HS.out i _ HVS.out).lt e
                  omega)
              have hlS3 := own_kp HLS.out hkp (fun g hg e => by
                have h1 := own_ge HLS.out hg
                rcases e with e | e
                · have h2 := (HD.out i _ HVD.out).lt e
                  omega
                · have h2 := (HS.out i _ HVS.out).lt e
                  omega)
              obtain ⟨gB, gd, rfl, _, _⟩ := own_read hgD
              obtain ⟨gT, gt, rfl, _, _⟩ := own_read hgS
              have hs1 := hkp.size
              have hsz2 := hO.out.kp.size
              go_wp2_with (first
                | (at_builtin; (refine wpList_app1 wr _ _ rfl (.tmp 56) (.tmp 58) 88 22 rfl eLB w2.heap.size _ _ _ hlD3 rfl 1 1 rfl rfl (by simp [Value.oneCell']) (by simp only [maxLen]; omega) (by omega) (by omega) ?_; intro dl5 w5 hlD5 hk5 ha5; have hlS5 := own_kp hlS3 hk5 (fun g hg => own_ty hlS3 hlD3 (by decide) hg); have hs5 := hk5.size))
                | (at_builtin; (refine wpList_app1 w5 _ _ rfl (.tmp 60) (.tmp 62) 89 34 rfl eLS w2.heap.size _ _ _ hlS5 rfl 1 1 rfl rfl (by simp [Value.oneCell']) (by simp only [maxLen]; omega) (by omega) (by omega) ?_; intro sl6 w6 hlS6 hk6 ha6)))
              go_roundw
              case rel =>
                have tyD : ∀ (us : List Value) (u : Value) (k : Nat), Full wr 5 us u k → ∀ g, u.ownBlock = some g → ¬ u4.ownBlock = some g := fun us u k h g hg => own_ty h hlD3 (by decide) hg
                have tyS : ∀ (us : List Value) (u : Value) (k : Nat), Full wr 56 us u k → ∀ g, u.ownBlock = some g → ¬ u4.ownBlock = some g := fun us u k h g hg => own_ty h hlD3 (by decide) hg
                have tyD5 : ∀ (us : List Value) (u : Value) (k : Nat), Full w5 5 us u k → ∀ g, u.ownBlock = some g → ¬ u5.ownBlock = some g := fun us u k h g hg => own_ty h hlS5 (by decide) hg
                have tyS5 : ∀ (us : List Value) (u : Value) (k : Nat), Full w5 56 us u k → ∀ g, u.ownBlock = some g → ¬ u5.ownBlock = some g := fun us u k h g hg => own_ty h hlS5 (by decide) hg
                have up : ∀ (us : List Value) (u : Value) (k : Nat), Full wr 5 us u k → Full w6 5 us u k := fun us u k h => (h.kp hk5 (tyD us u k h)).kp hk6 (tyD5 us u k (h.kp hk5 (tyD us u k h)))
                have upS : ∀ (us : List Value) (u : Value) (k : Nat), Full wr 56 us u k → Full w6 56 us u k := fun us u k h => (h.kp hk5 (tyS us u k h)).kp hk6 (tyS5 us u k (h.kp hk5 (tyS us u k h)))
                refine ⟨i + 1, lsD ++ [.slice gB (a.dn + 9) gd], lsS ++ [.slice gT (a.sn + 9) gt], by omega, by go_num, ?_, by simpa using own_kp hlD5 hk6 (fun g hg => own_ty hlD5 hlS5 (by decide) hg), by simpa using hlS6⟩
                refine hO.out.step (by decide) HVD.out HVS.out HSD.out HSS.out (fun g hg => (HD.out i _ HVD.out).lt hg) (fun g hg => (HS.out i _ HVS.out).lt hg) (Z := fun g => u4.ownBlock = some g ∨ u5.ownBlock = some g)
                  ?_ ?_ ?_ ?_ (up _ _ _ hfD) (upS _ _ _ hfS) (up _ _ _ hgD) (upS _ _ _ hgS) (hatD.in_ (Nat.le_refl _)) (hatS.in_ (Nat.le_refl _))
                · exact ((hkp.mono fun _ _ e => .inl e).trans (hk5.mono fun _ _ e => .inr (.inl e)) fun _ _ e => e).trans (hk6.mono fun _ _ e => .inr (.inr e)) fun _ _ e => e
                · intro g hg us u k hu hug
                  rcases hg with hg | hg
                  · exact own_ty hu HLD.out (by decide) hug hg
                  · exact own_ty hu HLS.out (by decide) hug hg
                · intro g hg us u k hu hug
                  rcases hg with hg | hg
                  · exact own_ty hu HLD.out (by decide) hug hg
                  · exact own_ty hu HLS.out (by decide) hug hg
                · intro g hg
                  rcases hg with hg | hg
                  · exact own_ge HLD.out hg
                  · exact own_ge HLS.out hg
              case measure => simp [intOf]; omega
        · have hi' : i = l.length := by omega
          subst hi'
          have h1 : ¬ (l.length : Int) < (l.length : Int) := by omega
          have HO := Lib.hid hO.out
          have hLD := hO.out.lenD
          have hLS := hO.out.lenS
          obtain ⟨LA, ld, rfl, hld, hlrD⟩ := own_read hlD
          obtain ⟨LB, le, rfl, hle, hlrS⟩ := own_read hlS
          have HLD := Lib.hid hLD
          have HLS := Lib.hid hLS
          clear hO hLD hLS hlD hlS
          obtain ⟨w5, rfl⟩ : ∃ w5 : World, w5 = wr := ⟨_, rfl⟩
          go_wp2_with fail
          clear h1
          go_loop [10] (fun q => ∃ j : Nat, j ≤ l.length ∧ q = .int .i64 j) (fun q => l.length - (intOf q).toNat)
          case atStart => exact ⟨0, by omega, rfl⟩
          case round =>
            obtain ⟨j, hj, rfl⟩ := hrel
            have hj0 : (0 : Int) ≤ (j : Int) := by omega
            by_cases hjl : j < l.length
            · have hj1 : (j : Int) < (l.length : Int) := by omega
              obtain ⟨la, u, rfl, _, hu, hcu⟩ := hlrD.at_ hjl
              have hfu := HO.out.gD j u hu
              obtain ⟨lb, t, rfl, _, ht, hct⟩ := hlrS.at_ hjl
              have hft := HO.out.gS j t ht
              obtain ⟨U, ud, hv, hud, hur⟩ := own_read hfu
              obtain ⟨V, vd, hv2, hvd, hvr⟩ := own_read hft
              generalize hn : lenIn u = m at *
              generalize hn2 : lenIn t = m2 at *
              subst hv
              subst hv2
              have hmb : m ≤ 9223372036854775807 := by
                rcases hfu.2 with ⟨he, h0⟩ | ⟨_, cap, _, he, _, _, h1, h2, _⟩
                · omega
                · injection he with _ _ e3
                  subst e3
                  simp only [maxLen] at h2
                  omega
              have hmb2 : m2 ≤ 9223372036854775807 := by
                rcases hft.2 with ⟨he, h0⟩ | ⟨_, cap, _, he, _, _, h1, h2, _⟩
                · omega
                · injection he with _ _ e3
                  subst e3
                  simp only [maxLen] at h2
                  omega
              have hvr' : Rd w5 (fun k => (Value.slice V m2 vd).ownBlock = some k) 2 V m2 (sps (List.replicate m2 (-1 - (j : Int), 0))) := by
                rw [reps_MS]
                exact hvr
              have HUR := Lib.hid hur
              have HVR := Lib.hid hvr'
              clear hn hu hfu hn2 ht hft hur hvr hvr'
              go_wp2_with fail
              go_loop [11] (fun q => ∃ k : Nat, k ≤ m ∧ q = .int .i64 k) (fun q => m - (intOf q).toNat)
              case atStart => exact ⟨0, by omega, rfl⟩
              case round =>
                obtain ⟨k, hk, rfl⟩ := hrel
                have hk0 : (0 : Int) ≤ (k : Int) := by omega
                by_cases hkm : k < m
                · have hk1 : (k : Int) < (m : Int) := by omega
                  obtain ⟨ua, x, rfl, _, hx, hcx⟩ := HUR.out.at_ hkm
                  have hxe : x = .int .u8 ((j : Int) % 256) := by
                    have h1 : (reps m (MD j))[k]? = some (bv (UInt8.ofNat j)) := by
                      rw [show MD j = [bv (UInt8.ofNat j)] from rfl, reps_single, List.getElem?_replicate, if_pos hkm]
                    rw [h1] at hx
                    injection hx with hx
                    rw [← hx, MD_val]
                  subst hxe
                  go_wp2_with fail
                  go_round
                  case rel => exact ⟨k + 1, by omega, by go_num⟩
                  case measure => simp [intOf]; omega
                · have hk1 : ¬ (k : Int) < (m : Int) := by omega
                  go_wp2_with fail
                  go_loop [12] (fun q => ∃ k : Nat, k ≤ m2 ∧ q = .int .i64 k) (fun q => m2 - (intOf q).toNat)
                  case atStart => exact ⟨0, by omega, rfl⟩
                  case round =>
                    obtain ⟨k, hk, rfl⟩ := hrel
                    have hk0 : (0 : Int) ≤ (k : Int) := by omega
                    by_cases hkm : k < m2
                    · have hk1 : (k : Int) < (m2 : Int) := by omega
                      obtain ⟨ua, rfl, _, hcx, _⟩ := HVR.out.span (k := k) (by simpa using hkm)
                      rw [List.getElem_replicate] at hcx
                      simp only at hcx
                      go_wp2_with fail
                      go_round
                      case rel => exact ⟨k + 1, by omega, by go_num⟩
                      case measure => simp [intOf]; omega
                    · have hk1 : ¬ (k : Int) < (m2 : Int) := by omega
                      go_wp2_with fail
                      go_round
                      case rel => exact ⟨j + 1, by omega, by go_num⟩
                      case measure => simp [intOf]; omega
            · have hj1 : ¬ (j : Int) < (l.length : Int) := by omega
              go_wp2_with fail
              go_ret
              exact ⟨rfl, HKP0.out.trans HO.out.kp fun _ _ e => e⟩

end Go.Proofs.YtjgnapjhlhdgfaaDoor
