/- Records: the document's Right. -/
import Derived.Test.YtjgnapjhlhdgfaaDoorRf
import Derived.Deep.DeepCutAuto
set_option linter.unusedVariables false
set_option linter.unusedSimpArgs false
namespace Go.Proofs.YtjgnapjhlhdgfaaDoor
open Go.RowKit

theorem sb_toList (l : List UInt8) : (sb l).toList = l := by
  rw [ByteArray.toList_eq]
  simp [sb]

theorem fds_let (k : Int) (i : Nat) (hi : i < 10) : ((fds k).map let_).contains (let_ i) = (fds k).contains i := by
  have h : ∀ l : List Nat, (∀ f ∈ l, f < 10) → (l.map let_).contains (let_ i) = l.contains i := by
    intro l hl
    induction l with
    | nil => rfl
    | cons a l ih =>
      have ha := hl a (by simp)
      rw [List.map_cons, List.contains_cons, List.contains_cons, ih fun f hf => hl f (by simp [hf])]
      congr 1
      have hai : ∀ a, a < 10 → ∀ i, i < 10 → (let_ i == let_ a) = (i == a) := by decide
      exact hai a ha i hi
  exact h _ (fds_lt k)

set_option maxRecDepth 100000 in
set_option maxHeartbeats 6400000 in
theorem refright_any (a : Rc) (ok : Nat → Prop) (sp : List (Int × Int)) (w : World) (hr : Rd w ok 2 a.S a.sn (sps sp)) (hn : a.sn ≤ 9223372036854775807) (hd : a.dn ≤ 140737488355328) :
    Calls Tryd.prog 49 #[a.val] w fun e w' => e = .returned (errR (okR a sp)) ∧ Nw w w' := by
  have HFI := Lib.hid (fun W h0 h1 h => fit_any a ok sp W h hn hd h0 h1)
  have HRD := Lib.hid hr
  have HFD := Lib.hid (fun W => rfields_any a.k W)
  have HLE := Lib.hid (fun i hi => fds_let a.k i hi)
  have hl7 : ((fds a.k).map let_).length ≤ 100 := by
    unfold fds
    repeat' split
    all_goals simp
  have HHAS := Lib.hid (fun c W => has_any ((fds a.k).map let_) c W hl7)
  have HGE := Lib.hid (fun i hi W => get_any a i hi W)
  generalize hl : fds a.k = l at *
  have hbox := own_lit (e := 36) (size := 1) (base := w.heap.size) w a.cells 11 (by simp [maxLen]) rfl (Nat.le_refl _)
  have hnum : ∀ i, numOk a i = (decide (0 ≤ a.num i ∧ a.num i ≤ maxN) && (l.contains i || decide (a.num i = 0))) := fun i => by unfold numOk; rw [hl]
  have HNUM := Lib.hid hnum
  clear hnum hr hl7
  obtain ⟨q, hq⟩ : ∃ q, q = okR a sp := ⟨_, rfl⟩
  have hq' := hq
  unfold okR at hq'
  rw [hl] at hq'
  rw [← hq]
  have HQ := Lib.hid hq'
  clear hq hq'
  have h4 : a.num 4 = a.f := rfl
  have H4 := Lib.hid h4
  clear h4 hl
  have hval : a.val = .agg #[.int .i64 a.k, .int .i64 a.o, .int .i64 a.n, .int .i64 a.p, .int .i64 a.v, .int .i64 a.f, .int .i64 a.r, .int .i64 a.z, .int .i64 a.h, .slice a.S a.sn a.sc, .slice a.D a.dn a.dc] := rfl
  rw [hval]
  have HVAL := Lib.hid hval
  clear hval
  have HBOX := Lib.hid hbox
  have hnwB : Nw w (w.alloc (.cells a.cells 36)) := (Kp.refl _ w).alloc _
  clear hbox
  by_cases hle : l = []
  · subst hle
    have hqq : q = false := by rw [HQ.out]; rfl
    subst hqq
    have he : (sb (List.map let_ [])).toList.isEmpty = true := by rw [sb_toList]; rfl
    have he' : (sb []).toList.isEmpty = true := by rw [sb_toList]; rfl
    go_enter Tryd.func49, Tryd.ntmps49
    go_wp2_with (go_at_call 50; refine (HFD.out _).mono ?_; rintro e w2 ⟨rfl, hnw2⟩)
    go_ret
    exact ⟨rfl, hnwB.nw hnw2⟩
  have he : (sb (List.map let_ l)).toList.isEmpty = false := by
    cases l with
    | nil => exact absurd rfl hle
    | cons x l => rw [sb_toList]; rfl
  go_enter Tryd.func49, Tryd.ntmps49
  go_wp2_with (go_at_call 50; refine (HFD.out _).mono ?_; rintro e w2 ⟨rfl, hnw2⟩)
  have hb2 := own_nw HBOX.out hnw2
  have HB2 := Lib.hid hb2
  clear hb2
  go_loopw [4] (fun i wx => ∃ j : Nat, j ≤ 8 ∧ i = .int .i64 j ∧ Nw w2 wx ∧ ∀ i, i < j → numOk a i = true) (fun i _ => 8 - (intOf i).toNat)
  case atStart => exact ⟨0, by omega, rfl, Kp.refl _ _, fun i hi => by omega⟩
  case round =>
    obtain ⟨j, hj8, rfl, hnw, hall⟩ := hrel
    have HALL := Lib.hid hall
    clear hall
    have hbr := own_nw HB2.out hnw
    have HBR := Lib.hid hbr
    clear hbr
    by_cases hlt : j < 8
    · have q0 := NwS.cell (own_at HBR.out (k := 0) (v := .int .i64 a.k) rfl)
      have q1 := NwS.cell (own_at HBR.out (k := 1) (v := .int .i64 a.o) rfl)
      have q2 := NwS.cell (own_at HBR.out (k := 2) (v := .int .i64 a.n) rfl)
      have q3 := NwS.cell (own_at HBR.out (k := 3) (v := .int .i64 a.p) rfl)
      have q4 := NwS.cell (own_at HBR.out (k := 4) (v := .int .i64 a.v) rfl)
      have q5 := NwS.cell (own_at HBR.out (k := 5) (v := .int .i64 a.f) rfl)
      have q6 := NwS.cell (own_at HBR.out (k := 6) (v := .int .i64 a.r) rfl)
      have q7 := NwS.cell (own_at HBR.out (k := 7) (v := .int .i64 a.z) rfl)
      have q8 := NwS.cell (own_at HBR.out (k := 8) (v := .int .i64 a.h) rfl)
      have q9 := NwS.cell (own_at HBR.out (k := 9) (v := .slice a.S a.sn a.sc) rfl)
      have q10 := NwS.cell (own_at HBR.out (k := 10) (v := .slice a.D a.dn a.dc) rfl)
      have hnj := HNUM.out j
      have HG := HGE.out j hlt
      rw [HVAL.out] at HG
      have HG := Lib.hid HG
      have HH := HHAS.out (let_ j)
      rw [HLE.out j (by omega)] at HH
      have HH := Lib.hid HH
      have hstr : ∀ h : j < (ByteArray.mk #[79, 78, 80, 86, 70, 82, 90, 72]).size, (ByteArray.mk #[79, 78, 80, 86, 70, 82, 90, 72])[j]'h = let_ j := by
        intro h
        have : j = 0 ∨ j = 1 ∨ j = 2 ∨ j = 3 ∨ j = 4 ∨ j = 5 ∨ j = 6 ∨ j = 7 := by omega
        rcases this with rfl | rfl | rfl | rfl | rfl | rfl | rfl | rfl <;> rfl
      go_wp2_with fail
      refine wp_region_nw (by kernel_rfl) (by kernel_rfl) ?_
      repeat (go_big_quiet_step ((go_at_call 52; exact calls_nw (HG.out _))))
      refine wpQuiet_nil ?_
      intro w4 hnw4
      clear q0 q1 q2 q3 q4 q5 q6 q7 q8 q9 q10
      generalize hnk : numOk a j = nk at hnj
      have HNK := Lib.hid hnk
      clear hnk
      generalize a.num j = x at *
      generalize l.contains j = c at *
      have hqf : nk = false → q = false := by
        intro h
        rw [HQ.out]
        have : (List.range 8).all (numOk a) = false := by
          rw [List.all_eq_false]
          exact ⟨j, List.mem_range.2 hlt, by rw [HNK.out, h]; simp⟩
        rw [this]
        simp
      have HQF := Lib.hid hqf
      have HNJ := Lib.hid hnj
      clear hqf hnj
      have hnx : ∀ i, i < j + 1 → nk = true → numOk a i = true := fun i hi h => by
        by_cases e : i < j
        · exact HALL.out i e
        · rw [show i = j from by omega, HNK.out, h]
      have HNX := Lib.hid hnx
      clear hnx
      cases c
      · by_cases hx : x = 0
        · subst hx
          have hk : nk = true := by rw [HNJ.out]; simp [maxN]
          go_wp2_with (go_at_call 74; refine (HH.out _).mono ?_; rintro e w5 ⟨rfl, hnw5⟩)
          go_roundw
          case rel => exact ⟨j + 1, by omega, by go_num, (hnw.nw hnw4).nw hnw5, fun i hi => HNX.out i hi hk⟩
          case measure => simp [intOf]; omega
        · have hqq : q = false := HQF.out (by rw [HNJ.out]; simp [hx])
          subst hqq
          have hx' : x < 0 ∨ (¬ x < 0 ∧ 4611686018427387903 < x) ∨ (¬ x < 0 ∧ ¬ 4611686018427387903 < x ∧ (x != 0) = true) := by
            have : (x != 0) = true := by simpa using hx
            by_cases h1 : x < 0
            · exact .inl h1
            · by_cases h2 : 4611686018427387903 < x
              · exact .inr (.inl ⟨h1, h2⟩)
              · exact .inr (.inr ⟨h1, h2, this⟩)
          clear hx
          rcases hx' with hx | ⟨hx0, hx⟩ | ⟨hx0, hx1, hx⟩
          all_goals
            go_wp2_with (go_at_call 74; refine (HH.out _).mono ?_; rintro e w5 ⟨rfl, hnw5⟩)
            go_ret
            exact ⟨rfl, (hnwB.nw hnw2).nw ((hnw.nw hnw4).nw hnw5)⟩
      · by_cases hx : 0 ≤ x ∧ x ≤ 4611686018427387903
        · have hk : nk = true := by rw [HNJ.out]; simp [maxN, hx]
          obtain ⟨hx1, hx2⟩ := hx
          go_wp2_with (go_at_call 74; refine (HH.out _).mono ?_; rintro e w5 ⟨rfl, hnw5⟩)
          go_roundw
          case rel => exact ⟨j + 1, by omega, by go_num, (hnw.nw hnw4).nw hnw5, fun i hi => HNX.out i hi hk⟩
          case measure => simp [intOf]; omega
        · have hqq : q = false := HQF.out (by rw [HNJ.out]; unfold maxN; rw [decide_eq_false hx]; rfl)
          subst hqq
          have hx' : x < 0 ∨ (¬ x < 0 ∧ 4611686018427387903 < x) := by omega
          clear hx
          rcases hx' with hx | ⟨hx0, hx⟩
          all_goals
            go_wp2_with (go_at_call 74; refine (HH.out _).mono ?_; rintro e w5 ⟨rfl, hnw5⟩)
            all_goals
              go_ret
              exact ⟨rfl, (hnwB.nw hnw2).nw ((hnw.nw hnw4).nw hnw5)⟩
    · have hj8' : j = 8 := by omega
      subst hj8'
      have hall := (List.all_eq_true (l := List.range 8) (p := numOk a)).2 fun i hi => HALL.out i (List.mem_range.1 hi)
      have h4 := HALL.out 4 (by omega)
      rw [HNUM.out 4, H4.out, Bool.and_eq_true] at h4
      have h4' := of_decide_eq_true h4.1
      have HF := fun W (h : Nw wr W) => HFI.out W h4'.1 h4'.2 (((HRD.out.nw (hnwB.nw hnw2)).nw hnw).nw h)
      rw [HVAL.out] at HF
      have hq3 := HQ.out
      have hle' : l.isEmpty = false := by cases l <;> simp_all
      rw [hall, hle'] at hq3
      simp only [Bool.true_and, Bool.and_true, Bool.not_false] at hq3
      have H78 := HHAS.out (let_ 1)
      rw [HLE.out 1 (by omega), show bv (let_ 1) = .int .u8 78 from rfl] at H78
      have H79 := HHAS.out (let_ 0)
      rw [HLE.out 0 (by omega), show bv (let_ 0) = .int .u8 79 from rfl] at H79
      have H68 := HHAS.out (let_ 9)
      rw [HLE.out 9 (by omega), show bv (let_ 9) = .int .u8 68 from rfl] at H68
      have H83 := HHAS.out (let_ 8)
      rw [HLE.out 8 (by omega), show bv (let_ 8) = .int .u8 83 from rfl] at H83
      generalize fitS a sp = s at *
      generalize l.contains 0 = c0 at *
      generalize l.contains 1 = c1 at *
      generalize l.contains 8 = c8 at *
      generalize l.contains 9 = c9 at *
      have H78 := Lib.hid H78
      have H79 := Lib.hid H79
      have H68 := Lib.hid H68
      have H83 := Lib.hid H83
      have HF := Lib.hid HF
      have HQ3 := Lib.hid hq3
      clear hq3 hall h4 h4' hle' hle
      go_wp2_with fail
      refine (H78.out wr).mono ?_
      rintro e w5 ⟨rfl, hnw5⟩
      go_wp2_with fail
      refine (H79.out w5).mono ?_
      rintro e w6 ⟨rfl, hnw6⟩
      go_wp2_with fail
      refine (H68.out w6).mono ?_
      rintro e w7 ⟨rfl, hnw7⟩
      go_wp2_with fail
      refine (H83.out w7).mono ?_
      rintro e w8 ⟨rfl, hnw8⟩
      have hn8 := ((hnw5.nw hnw6).nw hnw7).nw hnw8
      have hend : Nw w w8 := ((hnwB.nw hnw2).nw hnw).nw hn8
      have hb8 := own_nw HBR.out hn8
      have HF8 := Lib.hid (HF.out w8 hn8)
      have q0 := own_at hb8 (k := 0) (v := .int .i64 a.k) rfl
      have q1 := own_at hb8 (k := 1) (v := .int .i64 a.o) rfl
      have q2 := own_at hb8 (k := 2) (v := .int .i64 a.n) rfl
      have q3 := own_at hb8 (k := 3) (v := .int .i64 a.p) rfl
      have q4 := own_at hb8 (k := 4) (v := .int .i64 a.v) rfl
      have q5 := own_at hb8 (k := 5) (v := .int .i64 a.f) rfl
      have q6 := own_at hb8 (k := 6) (v := .int .i64 a.r) rfl
      have q7 := own_at hb8 (k := 7) (v := .int .i64 a.z) rfl
      have q8 := own_at hb8 (k := 8) (v := .int .i64 a.h) rfl
      have q9 := own_at hb8 (k := 9) (v := .slice a.S a.sn a.sc) rfl
      have q10 := own_at hb8 (k := 10) (v := .slice a.D a.dn a.dc) rfl
      clear hb8
      have HD := Lib.hid hd
      have HN := Lib.hid hn
      clear hd hn
      by_cases hx1 : c1 = true ∧ ¬ (1 ≤ a.n ∧ a.n < maxN)
      · obtain ⟨rfl, hx1⟩ := hx1
        have hqq : q = false := by rw [HQ3.out, decide_eq_false hx1]; simp
        subst hqq
        have hx : a.n < 1 ∨ (¬ a.n < 1 ∧ 4611686018427387903 ≤ a.n) := by unfold maxN at hx1; omega
        clear hx1
        rcases hx with hx | ⟨hx', hx⟩
        all_goals
          go_wp2_with fail
          go_ret
          exact ⟨rfl, hend⟩
      have h1 : (!c1 || decide (1 ≤ a.n ∧ a.n < maxN)) = true := by
        cases c1
        · rfl
        · rw [decide_eq_true (Classical.not_not.1 fun h => hx1 ⟨rfl, h⟩)]; rfl
      have hn1 : c1 = false ∨ (c1 = true ∧ ¬ a.n < 1 ∧ ¬ 4611686018427387903 ≤ a.n) := by
        cases c1
        · exact .inl rfl
        · have h := Classical.not_not.1 fun h => hx1 ⟨rfl, h⟩
          unfold maxN at h
          exact .inr ⟨rfl, by omega, by omega⟩
      clear hx1
      have hq4 := HQ3.out
      rw [h1] at hq4
      by_cases hx0 : c0 = true ∧ ¬ 1 ≤ a.o
      · obtain ⟨rfl, hx0⟩ := hx0
        have hqq : q = false := by rw [hq4, decide_eq_false hx0]; simp
        subst hqq
        have hx : a.o < 1 := by omega
        clear hx0 hq4 h1
        rcases hn1 with rfl | ⟨rfl, hn2, hn3⟩
        all_goals
          go_wp2_with fail
          go_ret
          exact ⟨rfl, hend⟩
      have h0 : (!c0 || decide (1 ≤ a.o)) = true := by
        cases c0
        · rfl
        · rw [decide_eq_true (Classical.not_not.1 fun h => hx0 ⟨rfl, h⟩)]; rfl
      have hn0 : c0 = false ∨ (c0 = true ∧ ¬ a.o < 1) := by
        cases c0
        · exact .inl rfl
        · have h := Classical.not_not.1 fun h => hx0 ⟨rfl, h⟩
          exact .inr ⟨rfl, by omega⟩
      rw [h0] at hq4
      clear hx0 h0 h1
      have HQ4 := Lib.hid hq4
      clear hq4
      by_cases hx9 : c9 = false ∧ decide (0 < a.dn) = true
      · obtain ⟨rfl, hx9⟩ := hx9
        have hqq : q = false := by
          have : ¬ a.dn = 0 := by have := of_decide_eq_true hx9; omega
          rw [HQ4.out]
          simp [this]
        subst hqq
        rcases hn0 with rfl | ⟨rfl, hn0⟩ <;> rcases hn1 with rfl | ⟨rfl, hn2, hn3⟩
        all_goals
          go_wp2_with fail
          go_ret
          exact ⟨rfl, hend⟩
      have hn9 : c9 = true ∨ (c9 = false ∧ decide (0 < a.dn) = false) := by
        cases c9
        · exact .inr ⟨rfl, Bool.not_eq_true _ ▸ fun h => hx9 ⟨rfl, h⟩⟩
        · exact .inl rfl
      clear hx9
      by_cases hx8 : c8 = false ∧ decide (0 < a.sn) = true
      · obtain ⟨rfl, hx8⟩ := hx8
        have hqq : q = false := by
          have : ¬ a.sn = 0 := by have := of_decide_eq_true hx8; omega
          rw [HQ4.out]
          simp [this]
        subst hqq
        rcases hn0 with rfl | ⟨rfl, hn0⟩ <;> rcases hn1 with rfl | ⟨rfl, hn2, hn3⟩ <;> rcases hn9 with rfl | ⟨rfl, hn9⟩
        all_goals
          go_wp2_with fail
          go_ret
          exact ⟨rfl, hend⟩
      have hn8' : c8 = true ∨ (c8 = false ∧ decide (0 < a.sn) = false) := by
        cases c8
        · exact .inr ⟨rfl, Bool.not_eq_true _ ▸ fun h => hx8 ⟨rfl, h⟩⟩
        · exact .inl rfl
      clear hx8
      have hqs : q = s := by
        have e9 : (c9 || decide (a.dn = 0)) = true := by
          rcases hn9 with rfl | ⟨rfl, h⟩
          · rfl
          · have := of_decide_eq_false h
            have : a.dn = 0 := by omega
            simp [this]
        have e8 : (c8 || decide (a.sn = 0)) = true := by
          rcases hn8' with rfl | ⟨rfl, h⟩
          · rfl
          · have := of_decide_eq_false h
            have : a.sn = 0 := by omega
            simp [this]
        rw [HQ4.out, e9, e8]
        simp
      subst hqs
      rcases hn0 with rfl | ⟨rfl, hn0⟩ <;> rcases hn1 with rfl | ⟨rfl, hn2, hn3⟩ <;> rcases hn9 with rfl | ⟨rfl, hn9⟩ <;> rcases hn8' with rfl | ⟨rfl, hn8'⟩ <;> cases q
      all_goals
        go_wp2_with (go_at_call 75; refine HF8.out.mono ?_; rintro e w9 ⟨rfl, hnw9⟩)
        go_ret
        exact ⟨rfl, hend.nw hnw9⟩

end Go.Proofs.YtjgnapjhlhdgfaaDoor
