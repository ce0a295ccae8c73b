/- Frames: the program's Frame. -/
import Derived.Test.YtjgnapjhlhdgfaaDoorEa
set_option linter.unusedVariables false
set_option linter.unusedSimpArgs false
namespace Go.Proofs.YtjgnapjhlhdgfaaDoor
open Go.RowKit

set_option maxRecDepth 100000 in
set_option maxHeartbeats 12800000 in
theorem rframe_any (A : Option Addr) (N c : Nat) (ok : Nat → Prop) (L : List RSt) (la : List Rc) (w : World) (hT : TabOk w) (hr : RowR w ok A N L la) (hN : N ≤ 10000000) (hb : ∀ s ∈ L, s.a.sn ≤ 1000000000 ∧ s.a.dn ≤ 1000000000) :
    Calls Tryd.prog 14 #[.slice A N c] w (FrPost w L) := by
  have hLN := hr.lenN
  have hLA : la.length = N := by rw [hr.len, hLN]
  have HR := Lib.hid hr
  have HT := Lib.hid hT
  have HWF := Lib.hid hr.wf
  have HB := Lib.hid hb
  have HLN := Lib.hid hLN
  have HLA := Lib.hid hLA
  have HSN := Lib.hid (fun k s (h : L[k]? = some s) => frs_snoc h)
  have eb := Tryd.elU8
  have HZ : Hid (∀ (a : Rc) (S : Option Addr) (sc : Nat) (D : Option Addr) (dc : Nat), (Tryd.prog.info? 36).map (·.size) = some (a.at_ S sc D dc).cells.size) := fun _ _ _ _ _ => by kernel_rfl
  have h00 := Lib.hid (show okL (L.take 0) = true from rfl)
  have h01 : Hid (w.ownsRow w.heap.size 5 1 (.slice none 0 0) (frs (L.take 0)).length (bys (frs (L.take 0)))) := Lib.hid (World.ownsRow_nil _ _ _ _)
  clear hr hb hLN hLA hT
  go_enter Tryd.func14, Tryd.ntmps14
  go_wp2_with fail
  go_loopw [4, 11] (fun v i wr => ∃ k : Nat, k ≤ N ∧ i = .int .i64 k ∧ Hid (okL (L.take k) = true) ∧ Hid (wr.ownsRow w.heap.size 5 1 v (frs (L.take k)).length (bys (frs (L.take k)))) ∧ Nw w wr) (fun _ i _ => N - (intOf i).toNat)
  case atStart => exact ⟨0, by omega, rfl, h00, h01, Kp.refl _ _⟩
  case round =>
    obtain ⟨k, hk, rfl, HOKL, HOW, hnw⟩ := hrel
    by_cases hlt : k < N
    · obtain ⟨ad, rfl, _, hcs, _, _⟩ := (HR.out.nw hnw).row.rec_ (i := k) (by rw [HLA.out]; exact hlt)
      obtain ⟨s, hLk⟩ : ∃ s, L[k]? = some s := ⟨_, List.getElem?_eq_getElem (by rw [HLN.out]; exact hlt)⟩
      have hak : la[k]? = some (la[k]'(by rw [HLA.out]; exact hlt)) := List.getElem?_eq_getElem _
      generalize (la[k]'(by rw [HLA.out]; exact hlt)) = a at *
      obtain ⟨S, sc, D, dc, rfl, hrS, hrD⟩ := HR.out.each k s a hLk hak
      have HCS := Lib.hid hcs
      have hbb := HB.out s (List.mem_of_getElem? hLk)
      have hPP := fun W (h : Nw w W) => prpost_of S sc D dc (rprint_any (s.a.at_ S sc D dc) ok ok s.sp s.dt W (hrS.nw h) (hrD.nw h) (by show s.a.sn ≤ _; omega) (by show s.a.dn ≤ _; omega))
      have h0 : (0 : Int) ≤ (k : Int) := by omega
      have h1 : (k : Int) < (N : Int) := by omega
      clear hcs hrS hrD hak
      have hxl := frs_take_len HOKL.out HWF.out HLN.out hN
      by_cases hok : okR s.a s.sp = true
      · as_aux_lemma =>
          have HP := Lib.hid (fun W h => (hPP W h).1 hok)
          obtain ⟨P, hP⟩ : ∃ P, prR s.a s.sp s.dt = P := ⟨_, rfl⟩
          have hsn := HSN.out k s hLk
          rw [hP] at hsn HP
          have hpl : P.length ≤ 131072 := by rw [← hP]; exact prR_small hok (HWF.out s (List.mem_of_getElem? hLk)).1 (HWF.out s (List.mem_of_getElem? hLk)).2
          obtain ⟨X, hX⟩ : ∃ X, frs (L.take k) = X := ⟨_, rfl⟩
          have how := HOW.out
          rw [hX] at hsn hxl how
          obtain ⟨m, hm⟩ : ∃ m, P.length = m := ⟨_, rfl⟩
          obtain ⟨S4, hS4⟩ : ∃ S4, Crc.sum P = S4 := ⟨_, rfl⟩
          have hbS := Crc.sum_lt P
          rw [hS4] at hbS
          rw [hm, hS4] at hsn
          rw [hm] at hpl
          have HSN1 := Lib.hid hsn
          have HOKN := Lib.hid (okL_snoc hLk HOKL.out hok)
          have HSUM := Lib.hid hS4
          have HM := Lib.hid hm
          obtain ⟨xl, hxe⟩ : ∃ xl, X.length = xl := ⟨_, rfl⟩
          rw [hxe] at how hxl
          have HXE := Lib.hid hxe
          clear hsn hS4 hm hxe hP hX hPP hok HOW HOKL
          go_upto_region 5 with (first | ((with_reducible refine opAt 14 ?_); (refine wpList_load_at rfl 36 _ rfl (ad.add (k * 11)) rfl (s.a.at_ S sc D dc).cells _ HCS.out Tryd.underlying36 rfl (by kernel_rfl) ?_)) | ((with_reducible refine stAt 36 (.tmp 6) (.tmp 14) ?_); (refine wpList_store_row rfl 36 (.tmp 6) (.tmp 14) rfl wr.heap.size (s.a.at_ S sc D dc).cells rfl rfl 36 _ (heap_alloc_new _ _) (HZ.out _ _ _ _ _) (by rfl) (cells_one _) ?_; obtain ⟨hb6, hn6⟩ := row_new wr #[.int .i64 0, .int .i64 0, .int .i64 0, .int .i64 0, .int .i64 0, .int .i64 0, .int .i64 0, .int .i64 0, .int .i64 0, .slice none 0 0, .slice none 0 0] (s.a.at_ S sc D dc).cells 36; generalize World.setRow (World.alloc wr (.cells #[.int .i64 0, .int .i64 0, .int .i64 0, .int .i64 0, .int .i64 0, .int .i64 0, .int .i64 0, .int .i64 0, .int .i64 0, .slice none 0 0, .slice none 0 0] 36)) wr.heap.size (s.a.at_ S sc D dc).cells = w1 at *)))
          go_wp2_with ((with_reducible refine opAt 16 ?_); (refine wpList_load_row rfl 36 _ rfl wr.heap.size rfl _ _ _ _ hb6 Tryd.underlying36 rfl (HZ.out _ _ _ _ _) ?_))
          clear hb6
          refine (HP.out w1 (hnw.nw hn6)).mono ?_
          intro e w2 h
          obtain ⟨vp, rfl, hpo, hn2⟩ := h
          rw [HM.out] at hpo
          obtain ⟨PA, pc, rfl, hpc, _⟩ := own_read hpo
          have hn12 := hn6.nw hn2
          have hs6 := hn6.size
          have hs2 := hn2.size
          have hs0 := hnw.size
          have hpo' := own_base hpo (base' := wr.heap.size) (fun g hg => by have := own_ge hpo hg; omega)
          go_wp2_with fail
          refine (four_any _ m w.heap.size _ X w2 (by omega) (own_nw how hn12) (by omega) (by omega)).mono ?_
          rintro e w3 ⟨v3, rfl, ho3, hk3, ha3⟩
          have hs3 := hk3.size
          have hp3 := own_kp hpo' hk3 (fun g h1 h2 => by have := own_ge hpo' h1; have := own_lt how h2; omega)
          have hn3 : Nw w w3 := Nw.row (hnw.nw hn12) (own_nw how hn12) hk3
          go_wp2_with fail
          refine (rsum_any PA m pc _ P w3 (TabOk.nw HT.out hn3) (own_slice hp3) (by omega)).mono ?_
          rintro e w4 ⟨rfl, rfl⟩
          rw [HSUM.out]
          go_wp2_with fail
          refine (four_any _ S4 w.heap.size _ _ w3 (by omega) ho3 (by omega) (by omega)).mono ?_
          rintro e w4 ⟨v4, rfl, ho4, hk4, ha4⟩
          have hs4 := hk4.size
          have hp4 := own_kp hp3 hk4 (fun g h1 h2 => by
            have h3 := own_ge hp3 h1
            have h4 := own_lt hpo' h1
            rcases ha3 with ha | ⟨q, ha, hq⟩
            · rw [ha] at h2
              have := own_lt how h2
              omega
            · rw [ha] at h2
              injection h2 with h2
              omega)
          have hrp := own_slice hp4
          have hn4 : Nw w w4 := Nw.row hn3 ho3 hk4
          clear hp3 hp4 hk3 ha3 hpo' hpo how hk4 ha4
          go_upto_region 11 with (at_builtin; (refine wpList_appv _ rfl (.tmp 32) (.tmp 33) 22 5 rfl eb w.heap.size _ _ _ ho4 rfl _ PA _ pc _ hrp rfl (bys_one _) (by simp only [maxLen]; omega) (by omega) (by omega) ?_; intro v5 w5 ho5 hk5 ha5))
          have hn5 := Lib.hid (Nw.row hn4 ho4 hk5)
          have HOW5 : Hid (w5.ownsRow w.heap.size 5 1 v5 (frs (L.take (k + 1))).length (bys (frs (L.take (k + 1))))) := Lib.hid (by
            rw [HSN1.out]
            simp only [List.length_append, f4_len, HXE.out, HM.out]
            rw [bys_app]
            exact ho5)
          clear ho5 hk5 ha5 ho4 ho3 hrp
          go_wp2_with fail
          go_roundw
          case rel => exact ⟨k + 1, by omega, by go_num, HOKN, HOW5, hn5.out⟩
          case measure => simp [intOf]; omega
      · as_aux_lemma =>
          have hokf : okR s.a s.sp = false := by simpa using hok
          have HP := Lib.hid (fun W h => (hPP W h).2 hokf)
          have HFIN := Lib.hid (fun W (hW : Nw w W) => frpost_bad (List.mem_of_getElem? hLk) hokf hW)
          clear hok hokf hPP HOW HOKL
          go_upto_region 5 with (first | ((with_reducible refine opAt 14 ?_); (refine wpList_load_at rfl 36 _ rfl (ad.add (k * 11)) rfl (s.a.at_ S sc D dc).cells _ HCS.out Tryd.underlying36 rfl (by kernel_rfl) ?_)) | ((with_reducible refine stAt 36 (.tmp 6) (.tmp 14) ?_); (refine wpList_store_row rfl 36 (.tmp 6) (.tmp 14) rfl wr.heap.size (s.a.at_ S sc D dc).cells rfl rfl 36 _ (heap_alloc_new _ _) (HZ.out _ _ _ _ _) (by rfl) (cells_one _) ?_; obtain ⟨hb6, hn6⟩ := row_new wr #[.int .i64 0, .int .i64 0, .int .i64 0, .int .i64 0, .int .i64 0, .int .i64 0, .int .i64 0, .int .i64 0, .int .i64 0, .slice none 0 0, .slice none 0 0] (s.a.at_ S sc D dc).cells 36; generalize World.setRow (World.alloc wr (.cells #[.int .i64 0, .int .i64 0, .int .i64 0, .int .i64 0, .int .i64 0, .int .i64 0, .int .i64 0, .int .i64 0, .int .i64 0, .slice none 0 0, .slice none 0 0] 36)) wr.heap.size (s.a.at_ S sc D dc).cells = w1 at *)))
          go_wp2_with ((with_reducible refine opAt 16 ?_); (refine wpList_load_row rfl 36 _ rfl wr.heap.size rfl _ _ _ _ hb6 Tryd.underlying36 rfl (HZ.out _ _ _ _ _) ?_))
          clear hb6
          refine (HP.out w1 (hnw.nw hn6)).mono ?_
          intro e w2 h
          obtain ⟨vp, rfl, hpo, hn2⟩ := h
          have hz := Lib.hid (HFIN.out w2 ((hnw.nw hn6).nw hn2))
          have h60 : ((60 : Int) != 0) = true := by decide
          clear hpo
          go_wp2_with fail
          exact ⟨rfl, _, results_tmp2 (t := 2) (u := 3) rfl _ _ _, hz.out⟩
    · have hkN : k = N := by omega
      subst hkN
      have hL : L.take k = L := List.take_of_length_le (by rw [HLN.out]; exact Nat.le_refl _)
      rw [hL] at HOKL HOW
      have hz := Lib.hid (frpost_ok HOKL.out HOW.out hnw)
      have h1 : ¬ (k : Int) < (k : Int) := by omega
      clear hL
      go_wp2_with fail
      exact ⟨rfl, _, results_tmp2 (t := 2) (u := 3) rfl _ _ _, hz.out⟩

end Go.Proofs.YtjgnapjhlhdgfaaDoor
