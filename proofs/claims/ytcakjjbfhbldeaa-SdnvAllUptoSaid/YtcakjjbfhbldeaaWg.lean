/- Walks of layer 1's statements, sixth part: SdnvWrites. -/
import Derived.Test.YtcakjjbfhbldeaaSi
import Derived.Test.YtcakjjbfhbldeaaSh
set_option linter.unusedVariables false
set_option linter.unusedSimpArgs false
namespace Go.Proofs.Ytcakjjbfhbldeaa
open Go.RowKit

/-- Rows of bytes, each one's own, no two in one block. -/
structure Brows (w : World) (base e : Nat) (vs : List Value) : Prop where
  sep : Sep vs
  own : ∀ v ∈ vs, ∃ xs, w.ownsRow base e 1 v (lenIn v) xs
  len : ∀ v ∈ vs, lenIn v ≤ 1000000000
section
variable {w w' : World} {base e n : Nat} {vs : List Value} {v : Value} {xs : List Value}
theorem Brows.nil : Brows w base e [] := ⟨Sep.nil, fun v h => by simp at h, fun v h => by simp at h⟩
theorem Brows.kp {S : Nat → Prop} (h : Brows w base e vs) (hk : Kp S w w') (hn : ∀ v ∈ vs, ∀ g, v.ownBlock = some g → ¬ S g) : Brows w' base e vs :=
  ⟨h.sep, fun v hv => (h.own v hv).imp fun xs hx => own_kp hx hk (hn v hv), h.len⟩
theorem Brows.nw (h : Brows w base e vs) (hk : Nw w w') : Brows w' base e vs := h.kp hk fun _ _ _ _ e => e
theorem Brows.add {b' : Nat} (h : Brows w base e vs) (hb : base ≤ b') (hv : w.ownsRow b' e 1 v n xs) (hlt : ∀ u ∈ vs, ∀ g, u.ownBlock = some g → v.ownBlock ≠ some g) (hl : n ≤ 1000000000) : Brows w base e (vs ++ [v]) := by
  have hn := lenIn_own hv
  refine ⟨h.sep.snoc hlt, ?_, ?_⟩
  · intro u hu
    rcases List.mem_append.1 hu with hu | hu
    · exact h.own u hu
    · simp only [List.mem_singleton] at hu
      subst hu
      rw [hn]
      exact ⟨xs, own_base hv fun g hg => Nat.le_trans hb (own_ge hv hg)⟩
  · intro u hu
    rcases List.mem_append.1 hu with hu | hu
    · exact h.len u hu
    · simp only [List.mem_singleton] at hu
      subst hu
      omega
theorem Brows.lt (h : Brows w base e vs) : ∀ u ∈ vs, ∀ g, u.ownBlock = some g → g < w.heap.size := fun u hu g hg => by
  obtain ⟨xs, hx⟩ := h.own u hu
  exact own_lt hx hg
theorem Brows.ge (h : Brows w base e vs) : ∀ u ∈ vs, ∀ g, u.ownBlock = some g → base ≤ g := fun u hu g hg => by
  obtain ⟨xs, hx⟩ := h.own u hu
  exact own_ge hx hg
/-- A row new since w is put behind them. -/
theorem Brows.snoc (h : Brows w base e vs) (hk : Nw w w') (hb : base ≤ w.heap.size) (hv : w'.ownsRow w.heap.size e 1 v n xs) (hl : n ≤ 1000000000) : Brows w' base e (vs ++ [v]) :=
  (h.nw hk).add hb hv (fun u hu g hg e => by have h1 := h.lt u hu g hg; have h2 := own_ge hv e; omega) hl
end

theorem Brows.base {w : World} {base b' e : Nat} {vs : List Value} (h : Brows w base e vs) (hb : b' ≤ base) : Brows w b' e vs :=
  ⟨h.sep, fun v hv => (h.own v hv).imp fun xs hx => own_base hx fun g hg => Nat.le_trans hb (own_ge hx hg), h.len⟩
/-- Stops at the operation that writes place n: nothing is unfolded where it doesn't fit. -/
theorem opAt (n : Nat) {P : Program} {ops : Array Oper} {rest : List Oper} {a : Act} {Q : Exit → Act → World → Prop} {w : World} {b c d e f} (h : wpList P ops Q (Oper.mk (some n) b c d e f :: rest) a w) :
    wpList P ops Q (Oper.mk (some n) b c d e f :: rest) a w := h

theorem own_wordAt {w : World} {base e g n cap : Nat} {l : List Nat} (h : w.ownsRow base e 1 (.slice (some ⟨g, 0, none⟩) n cap) n (wds l)) {k x : Nat} (hb : l[k]? = some x) :
    w.cell? ⟨g, k, none⟩ = some (.int .u64 (x : Int)) := by
  have hl := h.1
  have hk := (List.getElem?_eq_some_iff.1 hb).1
  rw [wds_len, Nat.mul_one] at hl
  rw [h.cellAt k (by omega), wds, List.getElem?_map, hb]
  rfl
theorem wds_set (l : List Nat) (k x : Nat) : (wds l).set k (wv x) = wds (l.set k x) := by simp [wds, List.map_set]
theorem wds_take (l : List Nat) (k : Nat) : wds (l.take k) = (wds l).take k := by simp [wds, List.map_take]
theorem wds_drop (l : List Nat) (k : Nat) : wds (l.drop k) = (wds l).drop k := by simp [wds, List.map_drop]
theorem own_cutw {w : World} {base e g n cap : Nat} {l : List Nat} (h : w.ownsRow base e 1 (.slice (some ⟨g, 0, none⟩) n cap) n (wds l)) {k : Nat} (hk : k ≤ n) :
    w.ownsRow base e 1 (.slice (some ⟨g, 0, none⟩) k cap) k (wds (l.take k)) := by
  have := own_take h hk (by simp)
  rwa [Nat.mul_one, ← wds_take] at this
theorem zeros_wds (n : Nat) : (madeCells #[.int .u64 0] n).toList = wds (List.replicate n 0) := by
  rw [toList_madeCells_one]
  simp only [wds, List.map_replicate]
  rfl

/-- The row with its two marks behind. -/
theorem marks2 {w2 : World} {base e g n : Nat} {l : List Nat} (hn : l.length = n) (h : w2.ownsRow base e 1 (.slice (some ⟨g, 0, none⟩) (n + 2) (n + 2)) (n + 2) (wds l ++ (wds (List.replicate (n + 2) 0)).drop (n * 1))) :
    w2.cell? ⟨g, n, none⟩ = some (.int .u64 0) ∧ w2.frozen? ⟨g, n, none⟩ = false ∧ (w2.setCell ⟨g, n, none⟩ (.int .u64 71)).cell? ⟨g, n + 1, none⟩ = some (.int .u64 0) ∧ (w2.setCell ⟨g, n, none⟩ (.int .u64 71)).frozen? ⟨g, n + 1, none⟩ = false ∧
    Hid (((w2.setCell ⟨g, n, none⟩ (.int .u64 71)).setCell ⟨g, n + 1, none⟩ (.int .u64 72)).ownsRow base e 1 (.slice (some ⟨g, 0, none⟩) (n + 2) (n + 2)) (n + 2) (wds (l ++ [71, 72])) ∧
      Kp (fun k => k = g) w2 ((w2.setCell ⟨g, n, none⟩ (.int .u64 71)).setCell ⟨g, n + 1, none⟩ (.int .u64 72))) := by
  subst hn
  rw [Nat.mul_one, ← wds_drop, List.drop_replicate, ← wds_app, show l.length + 2 - l.length = 2 from by omega] at h
  have hst2 := h.stored l.length (wv 71)
  rw [wds_set, show (l ++ List.replicate 2 (0 : Nat)).set l.length 71 = l ++ [71, 0] from by simp [List.replicate]] at hst2
  have hst3 := hst2.1.stored (l.length + 1) (wv 72)
  rw [wds_set, show (l ++ [71, (0 : Nat)]).set (l.length + 1) 72 = l ++ [71, 72] from by simp] at hst3
  refine ⟨own_wordAt h (x := 0) (by simp [List.replicate]), h.frozenAt _, own_wordAt hst2.1 (x := 0) (by simp), hst2.1.frozenAt _, hst3.1, ?_⟩
  exact (((Kp.refl _ w2).one hst2.2).one hst3.2)

set_option maxRecDepth 100000 in
set_option maxHeartbeats 3200000 in
theorem law_SdnvWrites (A0 : Option Addr) (n0 c0 : Nat) (l : List Nat) (w : World)
    (hr0 : Rd w (fun _ => True) 1 A0 n0 (wds l)) (hl : ∀ x ∈ l, x < 18446744073709551616) (hc0 : n0 ≤ c0) (hb0 : c0 ≤ 1048576) :
    Calls Try.prog 6 #[.slice A0 n0 c0] w fun e w' => e = .returned (.bool true) ∧ Nw w w' := by
  have hl0 : l.length = n0 := by have := hr0.len; rwa [wds_len] at this
  subst hl0
  have HA := Lib.hid (awake_any w)
  have HLL := Lib.hid hl
  clear hl
  have ew := Try.elU64
  have eb := Try.elBs
  have hmk : ∀ W : World, (Instr.makeSlice 34 (.int .i64 ((l.length : Int) + 2)) (.int .i64 ((l.length : Int) + 2))).run Try.prog W =
      .ok (.slice (some ⟨W.heap.size, 0, none⟩) (l.length + 2) (l.length + 2)) (W.alloc (.cells (madeCells #[.int .u64 0] (l.length + 2)) 27)) := fun W => by
    have h := run_mk ew (l.length + 2) (l.length + 2) (Nat.le_refl _) (by omega) (by omega) W
    rw [Nat.mul_one] at h
    exact h
  have HO : Hid (∀ W : World, (W.alloc (.cells (madeCells #[.int .u64 0] (l.length + 2)) 27)).ownsRow W.heap.size 27 1 (.slice (some ⟨W.heap.size, 0, none⟩) (l.length + 2) (l.length + 2)) (l.length + 2) (wds (List.replicate (l.length + 2) 0))) := fun W => by
    have h := own_full (e := 27) (size := 1) (base := W.heap.size) W #[.int .u64 0] (l.length + 2) (by simp only [maxLen]; omega) (Nat.le_refl _)
    rwa [Nat.mul_one, zeros_wds] at h
  generalize madeCells #[.int .u64 0] (l.length + 2) = zz at hmk HO
  go_enter Try.func6, Try.ntmps6
  go_wp2_with (first
    | (go_at_call 10; refine HA.out.mono ?_; rintro e w1 ⟨rfl, hnw1⟩; have hr1 := (hr0.nw hnw1).alloc (.cells zz 27); have hown1 := HO.out w1)
    | (with_reducible refine opAt 27 ?_; refine wpList_copyv (o := ⟨some 27, _, _, _, _, _⟩) _ rfl (.tmp 25) (.tmp 26) 34 27 rfl ew w1.heap.size w1.heap.size _ _ _ hown1 rfl _ A0 _ c0 _ hr1 rfl (wds_one _) (by omega) ?_; intro w2 hown2 hkp2; obtain ⟨hc2, hf2, hc3, hf3, HST⟩ := marks2 rfl hown2; clear hown2))
  clear hc2 hf2 hc3 hf3 hr1 hown1 HO hmk
  have hnw3 : Nw w _ := (hnw1.alloc (.cells zz 27)).trans (hkp2.trans HST.out.2 fun _ _ e => e) fun i hi e => by have := hnw1.size; omega
  have hown3 := HST.out.1
  have hg1 := hnw1.size
  clear HST hkp2
  generalize (World.setCell (World.setCell w2 ⟨w1.heap.size, l.length, none⟩ (.int .u64 71)) ⟨w1.heap.size, l.length + 1, none⟩ (.int .u64 72)) = w3 at hnw3 hown3 ⊢
  have HW := Lib.hid (own_cutw hown3 (k := l.length) (by omega))
  rw [List.take_left'  rfl] at HW
  have HRJ := Lib.hid (fun W (h : Nw w3 W) => refJoin_any A0 l.length c0 _ l W ((hr0.nw hnw3).nw h) HLL.out (by omega))
  have HJ := Lib.hid (fun W (h : Nw w3 W) => join_any _ l.length (l.length + 2) _ l W (Rd.of_own (own_nw HW.out h)) HLL.out (by omega))
  have HN := Lib.hid (joinE_len l HLL.out)
  go_wp2_with (first
    | (go_at_call 18; refine (HRJ.out _ (Kp.refl _ _)).mono ?_; rintro e w4 ⟨v6, rfl, ho6, hnw4⟩)
    | (go_at_call 19; refine (HJ.out _ hnw4).mono ?_; rintro e w5 ⟨v7, rfl, ho7, hnw5⟩))
  have hg3 := hnw3.size
  have hg4 := hnw4.size
  have hg5 := hnw5.size
  clear zz hnw1
  go_loopw [8, 9] (fun lv i wr => ∃ (k : Nat) (ls : List Value), k ≤ l.length ∧ k ≤ 100 ∧ i = .int .i64 k ∧ ls.length = 2 * k ∧ Nw w5 wr ∧ wr.ownsRow w5.heap.size 25 1 lv ls.length ls ∧ Brows wr w5.heap.size 5 ls) (fun _ i _ => l.length - (intOf i).toNat)
  case atStart => exact ⟨0, [], by omega, by omega, rfl, rfl, Kp.refl _ _, World.ownsRow_nil _ _ _ _, Brows.nil⟩
  case round =>
    obtain ⟨k, ls, hk, hk100, rfl, hlk, hnw, hlo, hB⟩ := hrel
    by_cases hgo : k < l.length ∧ k < 100
    · obtain ⟨hlt, h100⟩ := hgo
      obtain ⟨ad, rfl, _, hc⟩ := (hr0.nw (((hnw3.nw hnw4).nw hnw5).nw hnw)).word hlt
      have hx := HLL.out _ (List.getElem_mem hlt)
      generalize l[k] = x at *
      have HX := Lib.hid hx
      have HBY := Lib.hid (fun W => bytes_any (x : Int) W (by omega) (by omega))
      have HRB := Lib.hid (fun W => refBytes_any (x : Int) W (by omega) (by omega))
      have HS := Lib.hid (fun W => size_any (x : Int) W (by omega) (by omega))
      have hs2 := siz_le hx
      rw [Int.toNat_natCast] at HBY HS HRB
      clear hx
      have h1 : (k : Int) < (l.length : Int) := by omega
      have h2 : (k : Int) < 100 := by omega
      go_wp2_with (first
        | (go_at_call 17; refine (HS.out wr).mono ?_; rintro e w' ⟨rfl, rfl⟩)
        | (go_at_call 16; refine (HBY.out wr).mono ?_; rintro e w6 ⟨v11, rfl, ho11, hn6⟩; have hc6 := (Kp.cell hn6 (World.block_lt_of_cell? _ _ hc) (fun e => e)).trans hc)
        | (go_at_call 16; refine (HBY.out w6).mono ?_; rintro e w7 ⟨v12, rfl, ho12, hn7⟩; have hc7 := (Kp.cell hn7 (World.block_lt_of_cell? _ _ hc6) (fun e => e)).trans hc6)
        | (go_at_call 20; refine (HRB.out w7).mono ?_; rintro e w8 ⟨v13, rfl, ho13, hn8⟩; obtain ⟨B13, d13, rfl, hd13, hrd13⟩ := own_read ho13; obtain ⟨B12, d12, rfl, hd12, hrd12⟩ := own_read ho12; obtain ⟨B11, d11, rfl, hd11, hrd11⟩ := own_read ho11; have hcv13 := run_cstr Try.underlying25 Try.underlying5 Try.underlying9 hrd13 d13; have hcv12 := run_cstr Try.underlying25 Try.underlying5 Try.underlying9 (hrd12.nw hn8) d12; have hcv11 := run_cstr Try.underlying25 Try.underlying5 Try.underlying9 ((hrd11.nw hn7).nw hn8) d11; have hB8 := ((hB.snoc hn6 hnw.size ho11 (by omega)).snoc hn7 (by have := hnw.size; have := hn6.size; omega) ho12 (by omega)).nw hn8; rw [List.append_assoc] at hB8; have hnw8 := ((hnw.nw hn6).nw hn7).nw hn8; have hlo8 := own_nw (own_nw (own_nw hlo hn6) hn7) hn8)
        | (at_builtin; refine wpList_app1 w8 _ _ rfl (.tmp 93) (.tmp 96) 36 25 rfl eb w5.heap.size _ _ _ hlo8 rfl 2 2 rfl rfl (by simp [Value.oneCell']) (by simp only [maxLen]; omega) (by omega) hnw8.size ?_; intro lv' w9 hlo9 hkp9 hat9))
      go_roundw
      case rel =>
        refine ⟨k + 1, _, by omega, by omega, by go_num, ?_, Nw.row hnw8 hlo8 hkp9, by simpa using hlo9, hB8.kp hkp9 fun v hv g hg => ?_⟩
        · simp [hlk]; omega
        · obtain ⟨xs, hxs⟩ := hB8.own v hv
          exact own_ty hxs hlo8 (by decide) hg
      case measure => simp [intOf]; omega
    · have hstop : ¬ (k : Int) < (l.length : Int) ∨ ((k : Int) < (l.length : Int) ∧ ¬ (k : Int) < 100) := by omega
      rcases hstop with h1 | ⟨h0, h1⟩
      all_goals
        obtain ⟨w6, rfl⟩ : ∃ w6 : World, w6 = wr := ⟨_, rfl⟩
        have hn35 : Nw w3 w6 := (hnw4.nw hnw5).nw hnw
        have ho6' := own_nw (own_nw ho6 hnw5) hnw
        have ho7' := own_nw ho7 hnw
        obtain ⟨B6, d6, rfl, _, hrd6⟩ := own_read ho6'
        obtain ⟨B7, d7, rfl, _, hrd7⟩ := own_read ho7'
        go_wp2_with (go_at_call 19; refine (HJ.out _ hn35).mono ?_; rintro e w7 ⟨v14, rfl, ho14, hnw7⟩; obtain ⟨B14, d14, rfl, _, hrd14⟩ := own_read ho14; have hcv6 := run_cstr Try.underlying25 Try.underlying5 Try.underlying9 (hrd6.nw hnw7) d6; have hcv7 := run_cstr Try.underlying25 Try.underlying5 Try.underlying9 (hrd7.nw hnw7) d7; have hcv14 := run_cstr Try.underlying25 Try.underlying5 Try.underlying9 hrd14 d14; have hown7 := own_nw hown3 (hn35.nw hnw7); have hcm1 := own_wordAt hown7 (k := l.length) (x := 71) (by simp); have hcm2 := own_wordAt hown7 (k := l.length + 1) (x := 72) (by simp))
        have hold := (hr0.old (by omega)).nw (hnw3.nw (hn35.nw hnw7))
        have hT : ∀ j, j < l.length → (upd (fun x => x / 3) l j ++ [71, 72])[j]? = l[j]? := fun j hj => by
          rw [List.getElem?_append_left (by rw [upd_len]; exact hj), upd_get _ _ _ hj, List.getElem?_eq_getElem hj]
        have HT := Lib.hid hT
        clear hT hcm1 hcm2 hcv6 hcv7 hcv14
        have hg7 := (hn35.nw hnw7).size
        go_loopw [15] (fun i wr => ∃ j : Nat, j ≤ l.length ∧ i = .int .i64 j ∧ wr.ownsRow w1.heap.size 27 1 (.slice (some ⟨w1.heap.size, 0, none⟩) (l.length + 2) (l.length + 2)) (l.length + 2) (wds (upd (fun x => x / 3) l j ++ [71, 72])) ∧ Kp (fun g => g = w1.heap.size) w7 wr) (fun i _ => l.length - (intOf i).toNat)
        case atStart => exact ⟨0, by omega, rfl, by rw [upd_zero]; exact hown7, Kp.refl _ _⟩
        case round =>
          obtain ⟨j, hj, rfl, hor, hkp⟩ := hrel
          by_cases hlt : j < l.length
          · obtain ⟨ad, rfl, _, hc⟩ := (hold.kp hkp fun g hg e => by omega).word hlt
            have hcr := own_wordAt hor (k := j) (x := l[j]) (by rw [HT.out j hlt, List.getElem?_eq_getElem hlt])
            have hdw : ∀ m, Nw wr (wr.drewN m) := fun m => (Kp.refl _ wr).drewN m
            have hst : ∀ m, (((wr.drewN m).setCell ⟨w1.heap.size, j, none⟩ (.int .u64 ((l[j] / 3 : Nat) : Int))).ownsRow w1.heap.size 27 1 (.slice (some ⟨w1.heap.size, 0, none⟩) (l.length + 2) (l.length + 2)) (l.length + 2) (wds (upd (fun x => x / 3) l (j + 1) ++ [71, 72]))) ∧ Kp (fun g => g = w1.heap.size) w7 ((wr.drewN m).setCell ⟨w1.heap.size, j, none⟩ (.int .u64 ((l[j] / 3 : Nat) : Int))) := fun m => by
              have h := (own_nw hor (hdw m)).stored j (wv (l[j] / 3))
              rw [wds_set, List.set_append_left _ _ (by rw [upd_len]; exact hlt), upd_set (fun x => x / 3) l j hlt] at h
              exact ⟨h.1, (hkp.nw (hdw m)).one h.2⟩
            have HST := Lib.hid hst
            have hxl := HLL.out _ (List.getElem_mem hlt)
            have hfz := hor.frozenAt j
            clear hst hdw hold hor
            generalize l[j] = x at *
            have h1 : (j : Int) < (l.length : Int) := by omega
            have h2 : (j : Int) < (l.length : Int) + 2 := by omega
            have HW3 : Hid (IntKind.u64.wrap ((x : Int) / 3) = ((x / 3 : Nat) : Int)) := by
              show IntKind.u64.wrap ((x : Int) / 3) = ((x / 3 : Nat) : Int)
              rw [wrapU64 _ (by omega) (by omega)]
              rfl
            have HXL := Lib.hid hxl
            clear hxl
            go_wp2
            go_quiet (fail)
            go_wp2
            go_roundw
            case rel => exact ⟨j + 1, by omega, by go_num, by rw [HW3.out]; exact (HST.out _).1, by rw [HW3.out]; exact (HST.out _).2⟩
            case measure => simp [intOf]; omega
          · have hjj : j = l.length := by omega
            subst hjj
            have hg13 : w1.heap.size < w3.heap.size := own_lt hown3 (g := w1.heap.size) rfl
            have hg6 := hnw.size
            have hg7' := hkp.size
            have hg67 := hnw7.size
            have hjl := HN.out
            have hlo7 := own_nw hlo hnw7
            have hlor := own_kp hlo7 hkp fun g hg e => by have := own_ge hlo7 hg; omega
            have hB7 := ((hB.base (b' := w4.heap.size) hg5).add (Nat.le_refl _) ho7' (fun u hu g hg e => by have h1 := hB.ge u hu g hg; have h2 := own_lt ho7 e; omega) (by omega)).snoc hnw7 (by omega) ho14 (by omega)
            have hBr := hB7.kp hkp fun v hv g hg e => by have := hB7.ge v hv g hg; omega
            have HBR := Lib.hid hBr
            have hup : upd (fun x => x / 3) l l.length = l.map (fun x => x / 3) := upd_all _ _ _ (Nat.le_refl _)
            rw [hup] at hor
            have hl2 : ∀ x ∈ l.map (fun x => x / 3), x < 18446744073709551616 := fun x hx => by
              obtain ⟨y, hy, rfl⟩ := List.mem_map.1 hx
              have := HLL.out y hy
              omega
            have hl2l : (l.map (fun x => x / 3)).length = l.length := by simp
            have hNw : Nw w wr := ((hnw3.nw (hn35.nw hnw7))).trans hkp fun g hg e => by omega
            generalize l.map (fun x => x / 3) = l2 at *
            have HW2 := Lib.hid (own_cutw hor (k := l.length) (by omega))
            rw [List.take_left' hl2l] at HW2
            have HL2 := Lib.hid hl2
            have HJ2 := Lib.hid (fun W (h : Nw wr W) => join_any _ l.length (l.length + 2) _ l2 W (Rd.of_own (own_nw HW2.out h)) HL2.out (by omega))
            have HRJ2 := Lib.hid (fun W (h : Nw wr W) => refJoin_any _ l.length (l.length + 2) _ l2 W (Rd.of_own (own_nw HW2.out h)) HL2.out (by omega))
            have HN2 := Lib.hid (joinE_len l2 HL2.out)
            clear hup hl2 hold hBr hB hB7 hlo hlo7 hor
            go_wp2_with (first
              | (go_at_call 19; refine (HJ2.out _ (Kp.refl _ _)).mono ?_; rintro e w8 ⟨v16, rfl, ho16, hn8⟩))
            refine (HRJ2.out _ hn8).mono ?_
            rintro e w9 ⟨v17, rfl, ho17, hn9⟩
            have hjl2 := HN2.out
            have hB9 := (HBR.out.snoc hn8 (by omega) ho16 (by omega)).nw hn9
            simp only [List.append_assoc, List.cons_append, List.nil_append] at hB9
            obtain ⟨B17, d17, rfl, _, hrd17⟩ := own_read ho17
            obtain ⟨B16, d16, rfl, _, hrd16⟩ := own_read ho16
            have hcv16 := run_cstr Try.underlying25 Try.underlying5 Try.underlying9 (hrd16.nw hn9) d16
            have hcv17 := run_cstr Try.underlying25 Try.underlying5 Try.underlying9 hrd17 d17
            have hlo9 := own_nw (own_nw hlor hn8) hn9
            have hg9 := (hn8.nw hn9).size
            go_wp2_with (at_builtin; refine wpList_app1 w9 _ _ rfl (.tmp 165) (.tmp 169) 36 25 rfl eb w5.heap.size _ _ _ hlo9 rfl 3 3 rfl rfl (by simp [Value.oneCell']) (by simp only [maxLen]; omega) (by omega) (by omega) ?_; intro lv' w10 hlo10 hkp10 hat10; obtain ⟨BL, dL, rfl, _, hrdL⟩ := own_read hlo10)
            have hB10 := hB9.kp hkp10 fun v hv g hg => by
              obtain ⟨xs, hxs⟩ := hB9.own v hv
              exact own_ty hxs hlo9 (by decide) hg
            have hrdL' := hrdL
            rw [hlk] at hrdL'
            refine (owned_any _ _ _ _ _ _ hrdL' (by omega) hB10.sep (fun v hv => ?_) hB10.len (fun g hg hs => ?_)).mono ?_
            · obtain ⟨xs, hxs⟩ := hB10.own v hv
              exact ⟨xs, own_base hxs fun _ _ => Nat.zero_le _⟩
            · obtain ⟨v, hv, hvg⟩ := hs
              obtain ⟨xs, hxs⟩ := hB10.own v hv
              exact own_ty hxs hlo10 (by decide) hvg (by rw [hlk]; exact hg)
            · rintro e w11 ⟨rfl, hk11⟩
              go_wp2_with fail
              go_ret
              refine ⟨rfl, ((((hNw.nw hn8).nw hn9).trans hkp10 fun g hg e => ?_).trans hk11 fun g hg e => ?_)⟩
              · have := own_ge hlo9 e
                omega
              · obtain ⟨v, hv, hvg⟩ := e
                have := hB10.ge v hv g hvg
                omega

end Go.Proofs.Ytcakjjbfhbldeaa
