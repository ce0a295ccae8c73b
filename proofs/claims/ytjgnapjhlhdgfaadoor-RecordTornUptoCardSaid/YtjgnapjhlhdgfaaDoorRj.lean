/- Records: the document's Print. -/
import Derived.Test.YtjgnapjhlhdgfaaDoorRi
import Derived.StillTailTactics
set_option linter.unusedVariables false
set_option linter.unusedSimpArgs false
namespace Go.Proofs.YtjgnapjhlhdgfaaDoor
open Go.RowKit

theorem let_ne {f : Nat} (hf : f < 10) : (f ≠ 9 → (((let_ f).toNat : Int) == 68) = false) ∧ (f ≠ 8 → (((let_ f).toNat : Int) == 83) = false) := by
  have : f = 0 ∨ f = 1 ∨ f = 2 ∨ f = 3 ∨ f = 4 ∨ f = 5 ∨ f = 6 ∨ f = 7 ∨ f = 8 ∨ f = 9 := by omega
  rcases this with rfl | rfl | rfl | rfl | rfl | rfl | rfl | rfl | rfl | rfl <;> decide

def Rc.cellsA (a : Rc) (A : Option Addr) : Array Value :=
  #[.int .i64 a.k, .int .i64 a.o, .int .i64 a.n, .int .i64 a.p, .int .i64 a.v, .int .i64 a.f, .int .i64 a.r, .int .i64 a.z, .int .i64 a.h, .slice A a.sn a.sc, .slice a.D a.dn a.dc]
theorem own_is {w : World} {base e size n n' : Nat} {v : Value} {xs ys : List Value} (h : w.ownsRow base e size v n xs) (hn : n = n') (hx : xs = ys) : w.ownsRow base e size v n' ys := by
  subst hn
  subst hx
  exact h
theorem own_bys {w : World} {base e n : Nat} {v : Value} {xs : List Value} {l : List UInt8} (h : w.ownsRow base e 1 v n xs) (hx : xs = bys l) : w.ownsRow base e 1 v l.length (bys l) := by
  subst hx
  have := h.1
  rw [bys_len, Nat.mul_one] at this
  rw [this]
  exact h

set_option maxRecDepth 100000 in
set_option maxHeartbeats 6400000 in
theorem refprint_any (a : Rc) (ok okd : Nat → Prop) (sp : List (Int × Int)) (dt : List UInt8) (w : World) (hr : Rd w ok 2 a.S a.sn (sps sp)) (hrd : Rd w okd 1 a.D a.dn (bys dt))
    (hn : a.sn ≤ 9223372036854775807) (hd : a.dn ≤ 140737488355328) :
    Calls Tryd.prog 27 #[a.val] w fun e w' => ∃ v, e = .returned (.tuple #[v, errR (okR a sp)]) ∧ w'.ownsRow w.heap.size 5 1 v (prO a sp dt).length (bys (prO a sp dt)) ∧ Nw w w' := by
  have HRI := Lib.hid (fun W h => refright_any a ok sp W h hn hd)
  have HRD := Lib.hid hr
  have HDD := Lib.hid hrd
  have hsl : sp.length = a.sn := by have := hr.1; rw [sps_len] at this; omega
  obtain ⟨A, hA⟩ : ∃ A, a.S = A := ⟨_, rfl⟩
  have hval : a.val = .agg #[.int .i64 a.k, .int .i64 a.o, .int .i64 a.n, .int .i64 a.p, .int .i64 a.v, .int .i64 a.f, .int .i64 a.r, .int .i64 a.z, .int .i64 a.h, .slice A a.sn a.sc, .slice a.D a.dn a.dc] := by rw [← hA]; rfl
  rw [hA] at hr
  have HRA := Lib.hid hr
  clear hA
  have HFD := Lib.hid (fun W => rfields_any a.k W)
  have HGE := Lib.hid (fun i hi W => get_any a i hi W)
  have hbox := own_lit (e := 36) (size := 1) (base := w.heap.size) w (a.cellsA A) 11 (by simp [maxLen]) rfl (Nat.le_refl _)
  have hdl : dt.length = a.dn := by have := hrd.len; rwa [bys_len] at this
  rw [hval]
  have HVAL := Lib.hid hval
  clear hval hr hrd
  have HBOX := Lib.hid hbox
  have hnwB : Nw w (w.alloc (.cells (a.cellsA A) 36)) := (Kp.refl _ w).alloc _
  clear hbox
  have hri := fun W (h : Nw (w.alloc (.cells (a.cellsA A) 36)) W) => HRI.out W (HRD.out.nw (hnwB.nw h))
  rw [HVAL.out] at hri
  unfold prO
  by_cases hok : okR a sp = true
  · have HOK := Lib.hid (okR_f hok)
    have hpl := prN_len HOK.out hsl hdl
    have HPL := Lib.hid hpl
    rw [hok] at hri ⊢
    rw [if_pos rfl]
    have HRW := Lib.hid hri
    clear hri hok hpl
    have ei := Tryd.elU8
    unfold errR at HRW ⊢
    simp only [if_true] at HRW ⊢
    obtain ⟨l, hl⟩ : ∃ l, l = fds a.k := ⟨_, rfl⟩
    have HNX : Hid (∀ j f, l[j]? = some f → prN a sp dt (j + 1) = prN a sp dt j ++ itm a sp dt f) := fun j f h => prN_succ (by rw [← hl]; exact h)
    have HAL : Hid (prN a sp dt l.length = prR a sp dt) := prN_all a sp dt (by rw [hl]; exact Nat.le_refl _)
    have HLT : Hid (∀ f ∈ l, f < 10) := fun f hf => fds_lt a.k f (by rw [← hl]; exact hf)
    have HD9 : Hid (9 ∈ l → a.dn ≤ 65536) := fun h => HOK.out.dat (by rw [← hl]; exact h)
    have HS8 : Hid (8 ∈ l → a.sn ≤ 500 ∧ okS sp = true) := fun h => HOK.out.spn (by rw [← hl]; exact h)
    have HNU := Lib.hid HOK.out.num
    have hk := HOK.out.kind
    have hl7 : l.length ≤ 7 := by rw [hl]; exact fds_len _
    have hfd := HFD.out
    rw [← hl] at hfd
    have hsz : (sb (l.map let_)).size = l.length := by rw [sb_size, List.length_map]
    have hsg : ∀ (S : ByteArray), sb (l.map let_) = S → ∀ (j : Nat) (h : j < S.size) (h' : j < l.length), S[j]'h = let_ (l[j]'h') := by
      intro S e
      subst e
      intro j h h'
      exact (show (sb (l.map let_))[j]'h = (l.map let_)[j]'(by rwa [List.length_map]) from rfl).trans (List.getElem_map _)
    generalize sb (l.map let_) = S at *
    have HSG := Lib.hid (hsg S rfl)
    have HFD := Lib.hid hfd
    have HSL := Lib.hid hsl
    have HDL := Lib.hid hdl
    have hp0 : prN a sp dt 0 = [UInt8.ofNat a.k.toNat] := rfl
    have HP0 := Lib.hid hp0
    clear hl hsg hfd hsl hdl hp0 HOK
    go_enter Tryd.func27, Tryd.ntmps27
    go_wp2_with (first
      | (go_at_call 49; refine (HRW.out _ (Kp.refl _ _)).mono ?_; rintro e w2 ⟨rfl, hnw2⟩; have hbk := (Kp.cell hnw2 (p := ⟨w.heap.size, 0, none⟩) (by simp) (fun e => e)).trans (own_at HBOX.out (k := 0) (v := .int .i64 a.k) rfl); have hs2 : w.heap.size < w2.heap.size := by have := hnw2.size; simp at this; omega)
      | (go_at_call 50; refine (HFD.out _).mono ?_; rintro e w3 ⟨rfl, hnw3⟩))
    obtain ⟨W1, hW1⟩ : ∃ W1, W1 = w.alloc (.cells (a.cellsA A) 36) := ⟨_, rfl⟩
    have hz1 : W1.heap.size = w.heap.size + 1 := by rw [hW1]; simp
    have hw3 : Nw (w.alloc (.cells (a.cellsA A) 36)) w3 := (hnw2.alloc _).nw hnw3
    have hrow := own_nw (own_byte w2 5 (w.heap.size + 1) a.k (UInt8.ofNat a.k.toNat) (by simp; omega) (by omega)) hnw3
    have HBX := HBOX
    rw [← hW1] at hw3 HBX hnwB
    rw [← hz1] at hrow
    have HZ1 := Lib.hid hz1
    have HBC : Hid (∀ W, Nw W1 W → ∀ (i : Nat) (v : Value), (a.cellsA A).toList[i]? = some v → W.cell? ⟨w.heap.size, i, none⟩ = some v) := fun W hw i v h =>
      (Kp.cell hw (p := ⟨w.heap.size, i, none⟩) (show w.heap.size < W1.heap.size by have := HZ1.out; omega) (fun e => e)).trans (own_at HBX.out h)
    clear hW1 hz1 hbk
    go_loopw [5, 7] (fun b i wr => ∃ j : Nat, j ≤ l.length ∧ i = .int .i64 j ∧ wr.ownsRow W1.heap.size 5 1 b (prN a sp dt j).length (bys (prN a sp dt j)) ∧ Nw W1 wr) (fun _ i _ => l.length - (intOf i).toNat)
    case atStart => exact ⟨0, by omega, rfl, by rw [HP0.out]; exact hrow, hw3⟩
    case round =>
      obtain ⟨j, hj, rfl, how, hnw⟩ := hrel
      by_cases hlt : j < l.length
      · have hgj : l[j]? = some l[j] := List.getElem?_eq_getElem hlt
        have hnx := HNX.out j _ hgj
        have hpl := HPL.out j
        have hf10 := HLT.out _ (List.getElem_mem hlt)
        have hmem := List.getElem_mem hlt
        have hS := HSG.out j (by omega) hlt
        generalize l[j] = f at *
        generalize prN a sp dt j = pre at *
        have HNX1 := Lib.hid hnx
        have HL := Lib.hid (let_ne hf10)
        rw [← hS] at HL
        clear hnx hgj
        have hj1 : (j : Int) < (S.size : Int) := by omega
        have hj0 : (0 : Int) ≤ (j : Int) := by omega
        have hj2 : j < S.size := by omega
        by_cases h9 : f = 9
        · subst h9
          have hdn := HD9.out hmem
          have hd1 : ((S[j].toNat : Int) == 68) = true := by rw [hS]; rfl
          have hbD := HBC.out _ hnw 10 (.slice a.D a.dn a.dc) rfl
          clear HL hS hmem
          go_wp2_with (first
            | (go_at_call 51; refine (refnum_any _ _ _ _ _ _ (by omega) (by omega) how (by have := hnw.size; omega) (by omega)).mono ?_; rintro e w5 ⟨v5, rfl, ho5, hk5, ha5⟩; rw [Int.toNat_natCast] at ho5; have hn5 := Nw.row hnw how hk5; have hbD5 := HBC.out _ hn5 10 (.slice a.D a.dn a.dc) rfl; have hs5 := siz_le (n := a.dn) (by omega))
            | (at_builtin; refine wpList_appv _ rfl (.tmp 46) (.tmp 48) 22 5 rfl ei W1.heap.size _ _ _ ho5 rfl okd a.D a.dn a.dc (bys dt) ((HDD.out.nw hnwB).nw hn5) rfl (bys_one _) (by simp only [maxLen]; omega) (by omega) (by have := hn5.size; omega) ?_; intro v6 w6 ho6 hk6 ha6))
          go_roundw
          case rel => exact ⟨j + 1, by omega, by go_num, by rw [HNX1.out]; exact own_bys ho6 (by rw [← bys_app, List.append_assoc]; rfl), Nw.row hn5 ho5 hk6⟩
          case measure => simp [intOf]; omega
        · have hd1 := HL.out.1 h9
          by_cases h8 : f = 8
          · subst h8
            have hss := HS8.out hmem
            have hd2 : ((S[j].toNat : Int) == 83) = true := by rw [hS]; rfl
            have hbS := HBC.out _ hnw 9 (.slice A a.sn a.sc) rfl
            have hsn := hss.1
            have HOS := Lib.hid hss.2
            clear HL hS hmem hss h9
            go_wp2_with (go_at_call 51; refine (refnum_any _ _ _ _ _ _ (by omega) (by omega) how (by have := hnw.size; omega) (by omega)).mono ?_; rintro e w5 ⟨v5, rfl, ho5, hk5, ha5⟩; rw [Int.toNat_natCast] at ho5; have hn5 := Nw.row hnw how hk5; have hs5 := siz_le (n := a.sn) (by omega))
            have hitm : itm a sp dt 8 = enc a.sn ++ sp.flatMap spE := rfl
            rw [hitm, ← List.append_assoc] at HNX1
            have ho5' := own_bys ho5 rfl
            have hpl5 : (pre ++ enc a.sn).length ≤ 70000 * 8 := by rw [List.length_append, enc_len]; omega
            generalize pre ++ enc a.sn = pre5 at *
            obtain ⟨wo, hwo⟩ : ∃ wo : World, wo = wr := ⟨_, rfl⟩
            have HSPL : Hid (∀ q, q ≤ sp.length → ((sp.take q).flatMap spE).length ≤ 20 * q) := fun q hq => by
              have := spE_all (l := sp.take q) fun s hs => okS_all HOS.out s (List.mem_of_mem_take hs)
              rw [List.length_take, Nat.min_eq_left hq] at this
              exact this
            have hsl := HSL.out
            clear hbS ho5 hitm hwo
            go_loopw [5, 8] (fun b i wr => ∃ q : Nat, q ≤ sp.length ∧ i = .int .i64 q ∧ wr.ownsRow W1.heap.size 5 1 b (pre5 ++ (sp.take q).flatMap spE).length (bys (pre5 ++ (sp.take q).flatMap spE)) ∧ Nw W1 wr) (fun _ i _ => sp.length - (intOf i).toNat)
            case atStart => exact ⟨0, by omega, rfl, by rw [List.take_zero, List.flatMap_nil, List.append_nil]; exact ho5', hn5⟩
            case round =>
              obtain ⟨q, hq, rfl, howq, hnq⟩ := hrel
              have hlq := HSPL.out q hq
              have hbS := HBC.out _ hnq 9 (.slice A a.sn a.sc) rfl
              by_cases hltq : q < sp.length
              · have hplq : (pre5 ++ (sp.take q).flatMap spE).length ≤ 1000000 := by rw [List.length_append]; omega
                obtain ⟨ad, rfl, _, hc1, hc2⟩ := ((HRA.out.nw hnwB).nw hnq).span hltq
                have HSPC : Hid (∀ W, Nw W1 W → W.cell? (ad.add (q * 2)) = some (.int .i64 sp[q].1) ∧ W.cell? ⟨(ad.add (q * 2)).block, (ad.add (q * 2)).off + 1, none⟩ = some (.int .i64 sp[q].2)) := fun W hw => by
                  obtain ⟨ad', e, _, h1, h2⟩ := ((HRA.out.nw hnwB).nw hw).span hltq
                  injection e with e
                  subst e
                  exact ⟨h1, h2⟩
                have hgq : sp[q]? = some sp[q] := List.getElem?_eq_getElem hltq
                have hsp := okS_at HOS.out hgq
                have hstep : (sp.take (q + 1)).flatMap spE = (sp.take q).flatMap spE ++ spE sp[q] := by rw [List.take_add_one, hgq, Option.toList_some, List.flatMap_append]; simp
                have HSTEP := Lib.hid hstep
                generalize sp[q] = s at *
                obtain ⟨x, y⟩ := s
                simp only at hc1 hc2 hsp HSPC
                have hspE : spE (x, y) = enc x.toNat ++ enc (y - x).toNat := rfl
                rw [hspE, ← List.append_assoc] at HSTEP
                obtain ⟨hx0, hx1, hx2⟩ := hsp
                generalize (sp.take q).flatMap spE = Q at *
                have hq1 : (q : Int) < (a.sn : Int) := by omega
                have hq0 : (0 : Int) ≤ (q : Int) := by omega
                clear hstep hgq hspE hsl
                go_wp2_with (go_at_call 51; refine (refnum_any _ _ _ _ _ _ hx0 (by omega) howq (by have := hnq.size; omega) (by omega)).mono ?_; rintro e w6 ⟨v6, rfl, ho6, hk6, ha6⟩)
                have hn6 := Nw.row hnq howq hk6
                have hbS6 := HBC.out _ hn6 9 (.slice (some ad) a.sn a.sc) rfl
                obtain ⟨hd1, hd2⟩ := HSPC.out _ hn6
                clear hbS hc1 hc2
                go_still_tail 14, (by kernel_rfl)
                change wpList _ _ _ _ _ w6.drew
                have ho7 := own_nw ho6 ((Kp.refl (fun _ => False) w6).drew)
                have hn7 := hn6.drew
                generalize w6.drew = w7 at *
                have hsx := siz_le (n := x.toNat) (by omega)
                have ho7' := own_bys ho7 rfl
                have hl7' : (pre5 ++ Q ++ enc x.toNat).length ≤ 1000010 := by rw [List.length_append, enc_len]; omega
                go_wp2_with (go_at_call 51; refine (refnum_any _ _ _ _ _ _ (by omega) (by omega) ho7' (by have := hn7.size; omega) (by omega)).mono ?_; rintro e w8 ⟨v8, rfl, ho8, hk8, ha8⟩)
                go_roundw
                case rel => exact ⟨q + 1, by omega, by go_num, by rw [HSTEP.out]; exact own_bys ho8 (by simp only [List.append_assoc]), Nw.row hn7 ho7' hk8⟩
                case measure => simp [intOf]; omega
              · have hqs : q = sp.length := by omega
                subst hqs
                rw [List.take_length] at howq
                have HOWQ := Lib.hid howq
                have hq1 : ¬ ((sp.length : Nat) : Int) < (a.sn : Int) := by omega
                clear howq hlq hsl
                go_wp2
                go_roundw
                case rel => exact ⟨j + 1, by omega, by go_num, by rw [HNX1.out]; exact HOWQ.out, hnq⟩
                case measure => simp [intOf]; omega
          · have hf8 : f < 8 := by omega
            have hd2 := HL.out.2 h8
            have q0 := NwS.cell (HBC.out _ hnw 0 (.int .i64 a.k) rfl)
            have q1 := NwS.cell (HBC.out _ hnw 1 (.int .i64 a.o) rfl)
            have q2 := NwS.cell (HBC.out _ hnw 2 (.int .i64 a.n) rfl)
            have q3 := NwS.cell (HBC.out _ hnw 3 (.int .i64 a.p) rfl)
            have q4 := NwS.cell (HBC.out _ hnw 4 (.int .i64 a.v) rfl)
            have q5 := NwS.cell (HBC.out _ hnw 5 (.int .i64 a.f) rfl)
            have q6 := NwS.cell (HBC.out _ hnw 6 (.int .i64 a.r) rfl)
            have q7 := NwS.cell (HBC.out _ hnw 7 (.int .i64 a.z) rfl)
            have q8 := NwS.cell (HBC.out _ hnw 8 (.int .i64 a.h) rfl)
            have q9 := NwS.cell (HBC.out _ hnw 9 (.slice A a.sn a.sc) rfl)
            have q10 := NwS.cell (HBC.out _ hnw 10 (.slice a.D a.dn a.dc) rfl)
            have HG := HGE.out f hf8
            rw [HVAL.out] at HG
            unfold bv at HG
            rw [← hS] at HG
            have HG := Lib.hid HG
            have hnum := HNU.out f hf8
            have hitm : itm a sp dt f = enc (a.num f).toNat := by unfold itm; rw [if_neg h9, if_neg h8]
            rw [hitm] at HNX1
            generalize a.num f = x at *
            obtain ⟨hx0, hx1⟩ := hnum
            clear HL hS hmem h9 h8 hitm
            go_wp2_with fail
            refine wp_region_nw (by kernel_rfl) (by kernel_rfl) ?_
            repeat (go_big_quiet_step ((go_at_call 52; exact calls_nw (HG.out _))))
            refine wpQuiet_nil ?_
            intro w4 hnw4
            clear q0 q1 q2 q3 q4 q5 q6 q7 q8 q9 q10
            have ho4 := own_nw how hnw4
            have hn4 := hnw.nw hnw4
            go_wp2_with (go_at_call 51; refine (refnum_any _ _ _ _ _ _ hx0 hx1 ho4 (by have := hn4.size; omega) (by omega)).mono ?_; rintro e w5 ⟨v5, rfl, ho5, hk5, ha5⟩)
            go_roundw
            case rel => exact ⟨j + 1, by omega, by go_num, by rw [HNX1.out]; exact own_bys ho5 rfl, Nw.row hn4 ho4 hk5⟩
            case measure => simp [intOf]; omega
      · have hjl : j = l.length := by omega
        subst hjl
        rw [HAL.out] at how
        have HOW := Lib.hid how
        clear how
        go_wp2
        go_ret2
        exact ⟨_, rfl, own_base HOW.out (fun g hg => by have := own_ge HOW.out hg; have := HZ1.out; omega), hnwB.nw hnw⟩
  · rw [Bool.not_eq_true] at hok
    rw [hok] at hri ⊢
    rw [if_neg (by simp)]
    have HRW := Lib.hid hri
    clear hri hok
    unfold errR at HRW ⊢
    simp only [Bool.false_eq_true, if_false] at HRW ⊢
    go_enter Tryd.func27, Tryd.ntmps27
    go_wp2_with (go_at_call 49; refine (HRW.out _ (Kp.refl _ _)).mono ?_; rintro e w2 ⟨rfl, hnw2⟩)
    go_ret2
    exact ⟨_, rfl, World.ownsRow_nil _ _ _ _, hnwB.nw hnw2⟩

end Go.Proofs.YtjgnapjhlhdgfaaDoor
