/- Records: the program's Right. -/
import Derived.Test.YtjgnapjhlhdgfaaDoorRe
import Derived.Deep.DeepCutAuto
set_option linter.unusedVariables false
set_option linter.unusedSimpArgs false
namespace Go.Proofs.YtjgnapjhlhdgfaaDoor
open Go.RowKit

def numOk (a : Rc) (i : Nat) : Bool := decide (0 ≤ a.num i ∧ a.num i ≤ maxN) && ((fds a.k).contains i || decide (a.num i = 0))
def okR (a : Rc) (sp : List (Int × Int)) : Bool :=
  !(fds a.k).isEmpty && ((fds a.k).contains 9 || decide (a.dn = 0)) && ((fds a.k).contains 8 || decide (a.sn = 0)) && (List.range 8).all (numOk a) &&
    (!(fds a.k).contains 0 || decide (1 ≤ a.o)) && (!(fds a.k).contains 1 || decide (1 ≤ a.n ∧ a.n < maxN)) && fitS a sp
/-- The error's number. -/
def errR (b : Bool) : Value := .int .i64 (if b then 0 else 60)

/-- Which fields were met among the first k. -/
def hs (l : List Nat) (k : Nat) : List Value := (List.range 10).map fun i => .bool ((l.take k).contains i)
theorem hs_len (l : List Nat) (k : Nat) : (hs l k).length = 10 := by simp [hs]
theorem hs_at (l : List Nat) (k i : Nat) (h : i < 10) : (hs l k)[i]? = some (.bool ((l.take k).contains i)) := by simp [hs, List.getElem?_range h]
theorem hs_set (l : List Nat) (k f : Nat) (hk : l[k]? = some f) : (hs l k).set f (.bool true) = hs l (k + 1) := by
  apply List.ext_getElem?
  intro i
  by_cases hi : i < 10
  · rw [hs_at _ _ _ hi, List.getElem?_set, hs_at _ _ _ hi, hs_len]
    have hkl := (List.getElem?_eq_some_iff.1 hk).1
    rw [List.take_add_one, hk, Option.toList_some, List.contains_append]
    by_cases he : f = i
    · subst he
      simp [hi]
    · have he' : ¬ i = f := fun e => he e.symm
      simp [he, he']
  · rw [List.getElem?_eq_none (by rw [List.length_set, hs_len]; omega), List.getElem?_eq_none (by rw [hs_len]; omega)]
theorem fds_lt (k : Int) : ∀ f ∈ fds k, f < 10 := by
  unfold fds
  intro f hf
  repeat' split at hf
  all_goals (simp at hf; try omega)

theorem own_at {w : World} {base e g n cap : Nat} {xs : List Value} (h : w.ownsRow base e 1 (.slice (some ⟨g, 0, none⟩) n cap) n xs) {k : Nat} {v : Value} (hb : xs[k]? = some v) :
    w.cell? ⟨g, k, none⟩ = some v := by
  have hl := h.1
  have hk := (List.getElem?_eq_some_iff.1 hb).1
  rw [h.cellAt k (by omega), hb]

theorem hs_zero (l : List Nat) : hs l 0 = [.bool false, .bool false, .bool false, .bool false, .bool false, .bool false, .bool false, .bool false, .bool false, .bool false] := rfl
theorem hs_all (l : List Nat) (i : Nat) (h : i < 10) : (hs l l.length)[i]? = some (.bool (l.contains i)) := by rw [hs_at _ _ _ h, List.take_length]
theorem Rd.int_ {w : World} {ok : Nat → Prop} {A : Option Addr} {n k : Nat} {l : List Nat} (h : Rd w ok 1 A n (ivs l)) (hk : k < l.length) :
    ∃ ad, A = some ad ∧ ok ad.block ∧ w.cell? (ad.add k) = some (.int .i64 ((l[k]'hk : Nat) : Int)) := by
  have hn : l.length = n := by have := h.len; rwa [ivs_len] at this
  obtain ⟨ad, u, rfl, ho, hx, hc⟩ := h.at_ (k := k) (by omega)
  have : (ivs l)[k]? = some (iv (l[k]'hk)) := by simp [ivs, hk]
  rw [this] at hx
  injection hx with hx
  exact ⟨ad, rfl, ho, by rw [hc, ← hx]; rfl⟩

set_option maxRecDepth 100000 in
set_option maxHeartbeats 3200000 in
theorem rright_any (a : Rc) (ok : Nat → Prop) (sp : List (Int × Int)) (w : World) (hr : Rd w ok 2 a.S a.sn (sps sp)) (hn : a.sn ≤ 9223372036854775807) (hd : a.dn ≤ 140737488355328) :
    Calls Tryd.prog 19 #[a.val] w fun e w' => e = .returned (errR (okR a sp)) ∧ Nw w w' := by
  have HFI := Lib.hid (fun W h0 h1 h => fits_any a ok sp W h hn hd h0 h1)
  have HRD := Lib.hid hr
  have HFD := Lib.hid (fun W => fields_any a.k W)
  have hlt := fds_lt a.k
  generalize hl : fds a.k = l at *
  have hl10 : l.length ≤ 7 := by
    rw [← hl]
    unfold fds
    repeat' split
    all_goals simp
  have hbox := own_lit (e := 36) (size := 1) (base := w.heap.size) w a.cells 11 (by simp [maxLen]) rfl (Nat.le_refl _)
  have hget : ∀ i, i < 8 → a.cells.toList[i + 1]? = some (.int .i64 (a.num i)) := by
    intro i hi
    have : i = 0 ∨ i = 1 ∨ i = 2 ∨ i = 3 ∨ i = 4 ∨ i = 5 ∨ i = 6 ∨ i = 7 := by omega
    rcases this with rfl | rfl | rfl | rfl | rfl | rfl | rfl | rfl <;> rfl
  have HGET := Lib.hid hget
  clear hget hr
  have hnum : ∀ i, numOk a i = (decide (0 ≤ a.num i ∧ a.num i ≤ maxN) && (l.contains i || decide (a.num i = 0))) := fun i => by unfold numOk; rw [hl]
  have HNUM := Lib.hid hnum
  clear hnum
  obtain ⟨q, hq⟩ : ∃ q, q = okR a sp := ⟨_, rfl⟩
  have hq' := hq
  unfold okR at hq'
  rw [hl] at hq'
  rw [← hq]
  have HQ := Lib.hid hq'
  clear hq hq'
  have h0 : a.num 0 = a.o := rfl
  have h1 : a.num 1 = a.n := rfl
  have h4 : a.num 4 = a.f := rfl
  have H0 := Lib.hid h0
  have H1 := Lib.hid h1
  have H4 := Lib.hid h4
  have HLT := Lib.hid hlt
  clear h0 h1 h4 hl hlt
  have hcS : a.cells.toList[9]? = some (.slice a.S a.sn a.sc) := rfl
  have hcD : a.cells.toList[10]? = some (.slice a.D a.dn a.dc) := rfl
  have HCS := Lib.hid hcS
  have HCD := Lib.hid hcD
  clear hcS hcD
  have hval : a.val = .agg #[.int .i64 a.k, .int .i64 a.o, .int .i64 a.n, .int .i64 a.p, .int .i64 a.v, .int .i64 a.f, .int .i64 a.r, .int .i64 a.z, .int .i64 a.h, .slice a.S a.sn a.sc, .slice a.D a.dn a.dc] := rfl
  rw [hval]
  have HVAL := Lib.hid hval
  clear hval
  have HBOX := Lib.hid hbox
  clear hbox
  go_enter Tryd.func19, Tryd.ntmps19
  go_wp2_with (go_at_call 31; refine (HFD.out _).mono ?_; rintro e w2 ⟨v2, rfl, ho2, hnw2⟩; obtain ⟨L, lc, rfl, _, hlr⟩ := own_read ho2)
  have hbox2 := own_nw HBOX.out hnw2
  have harr := own_lit (e := 60) (size := 1) (base := w2.heap.size) w2 #[.bool false, .bool false, .bool false, .bool false, .bool false, .bool false, .bool false, .bool false, .bool false, .bool false] 10 (by simp [maxLen]) rfl (Nat.le_refl _)
  have hnwB : Nw w w2 := ((Kp.refl (fun _ => False) w).alloc _).nw hnw2
  go_loopw [14] (fun i wr => ∃ j : Nat, j ≤ l.length ∧ i = .int .i64 j ∧ wr.ownsRow w2.heap.size 60 1 (.slice (some ⟨w2.heap.size, 0, none⟩) 10 10) 10 (hs l j) ∧ Nw w2 wr) (fun i _ => l.length - (intOf i).toNat)
  case atStart => exact ⟨0, by omega, rfl, by rw [hs_zero]; exact harr, (Kp.refl _ _).alloc _⟩
  case round =>
    obtain ⟨j, hj, rfl, how, hnw⟩ := hrel
    by_cases hlt : j < l.length
    · obtain ⟨ad, rfl, _, hc⟩ := (hlr.nw hnw).int_ hlt
      have hf := HLT.out _ (List.getElem_mem hlt)
      have hgj : l[j]? = some l[j] := List.getElem?_eq_getElem hlt
      generalize l[j] = f0 at *
      have hst := how.stored f0 (.bool true)
      rw [hs_set l j f0 hgj] at hst
      have hce := own_at how (hs_at l j f0 hf)
      have hz := how.frozenAt f0
      have HST := Lib.hid hst
      have HOW := Lib.hid how
      clear hst how hgj
      generalize (l.take j).contains f0 = b0 at hce
      have h2 : (f0 : Int) < 10 := by omega
      have h3 : (j : Int) < (l.length : Int) := by omega
      go_wp2
      go_roundw
      case rel => exact ⟨j + 1, by omega, by go_num, HST.out.1, Nw.row hnw HOW.out (Kp.of_row HST.out.2)⟩
      case measure => simp [intOf]; omega
    · have hjl : j = l.length := by omega
      subst hjl
      have HARR := Lib.hid how
      have hbr := own_nw hbox2 hnw
      have hS := own_at hbr HCS.out
      have hD := own_at hbr HCD.out
      have hc8 := own_at how (hs_all l 8 (by omega))
      have hc9 := own_at how (hs_all l 9 (by omega))
      have HBR := Lib.hid hbr
      clear how hbr
      generalize hg8 : l.contains 8 = c8 at hc8
      generalize hg9 : l.contains 9 = c9 at hc9
      have HG8 := Lib.hid hg8
      have HG9 := Lib.hid hg9
      clear hg8 hg9
      by_cases hF : l.length = 0 ∨ (c9 = false ∧ 0 < a.dn) ∨ (c8 = false ∧ 0 < a.sn)
      · have hqf : q = false := by
          rw [HQ.out, HG8.out, HG9.out]
          rcases hF with h | ⟨h, h'⟩ | ⟨h, h'⟩
          · have : l = [] := List.eq_nil_of_length_eq_zero h
            simp [this]
          · have : ¬ a.dn = 0 := by omega
            simp [h, this]
          · have : ¬ a.sn = 0 := by omega
            simp [h, this]
        subst hqf
        rcases hF with h | ⟨rfl, h⟩ | ⟨rfl, h⟩
        all_goals
          go_wp2
          all_goals
            go_ret
            exact ⟨rfl, hnwB.nw hnw⟩
      · have hl1 : ¬ l.length = 0 := by omega
        have hd1 : c9 = true ∨ a.dn = 0 := by
          cases c9
          · right
            rcases Nat.eq_zero_or_pos a.dn with h | h
            · exact h
            · exact absurd (.inr (.inl ⟨rfl, h⟩)) hF
          · exact .inl rfl
        have hs1 : c8 = true ∨ a.sn = 0 := by
          cases c8
          · right
            rcases Nat.eq_zero_or_pos a.sn with h | h
            · exact h
            · exact absurd (.inr (.inr ⟨rfl, h⟩)) hF
          · exact .inl rfl
        have HQ2 : Hid (q = ((List.range 8).all (numOk a) && (!l.contains 0 || decide (1 ≤ a.o)) && (!l.contains 1 || decide (1 ≤ a.n ∧ a.n < maxN)) && fitS a sp)) := by
          show q = _
          have h1 : l.isEmpty = false := by cases l <;> simp_all
          have h2 : (c9 || decide (a.dn = 0)) = true := by rcases hd1 with h | h <;> simp [h]
          have h3 : (c8 || decide (a.sn = 0)) = true := by rcases hs1 with h | h <;> simp [h]
          rw [HQ.out, HG8.out, HG9.out, h1, h2, h3]
          simp only [Bool.not_false, Bool.true_and, Bool.and_true]
        clear hF
        go_upto_region 8 with fail
        go_cut [45] (fun s45 wx => s45 = .bool false ∧ wr = wx)
        case first =>
          have hli : ((l.length : Int) == 0) = false := beq_eq_false_iff_ne.2 (by omega)
          have hd2 : c9 = true ∨ decide (0 < a.dn) = false := hd1.imp (fun h => h) (fun h => decide_eq_false (by omega))
          have hs2 : c8 = true ∨ decide (0 < a.sn) = false := hs1.imp (fun h => h) (fun h => decide_eq_false (by omega))
          clear hd1 hs1 hl1 hl10
          cases c9 <;> cases c8
          all_goals
            simp only [Bool.false_eq_true, false_or, true_or] at hd2 hs2
            go_wp2
            all_goals
              go_meet
              exact ⟨rfl, rfl⟩
        case rest =>
          obtain ⟨rfl, rfl⟩ := hcut
          clear hd1 hs1 hc8 hc9 hS hD
          go_wp2
          go_loopw [7] (fun i wx => ∃ j : Nat, j ≤ 8 ∧ i = .int .i64 j ∧ wr = wx ∧ ∀ i, i < j → numOk a i = true) (fun i _ => 8 - (intOf i).toNat)
          case atStart => exact ⟨0, by omega, rfl, rfl, fun i hi => by omega⟩
          case round =>
            obtain ⟨j, hj8, rfl, rfl, hall⟩ := hrel
            have HALL := Lib.hid hall
            clear hall
            by_cases hlt : j < 8
            · have hcx := own_at HBR.out (HGET.out j hlt)
              have hcc := own_at HARR.out (hs_all l j (by omega))
              have hnj := HNUM.out j
              generalize hnk : numOk a j = nk at hnj
              have HNK := Lib.hid hnk
              clear hnk
              generalize a.num j = x at *
              generalize l.contains j = c at *
              have HP := Lib.hid (fun W => place_any w.heap.size j hlt W)
              have hqf : nk = false → q = false := by
                intro h
                rw [HQ2.out]
                have : (List.range 8).all (numOk a) = false := by
                  rw [List.all_eq_false]
                  exact ⟨j, List.mem_range.2 hlt, by rw [HNK.out, h]; simp⟩
                rw [this]
                simp
              have HQF := Lib.hid hqf
              have HNJ := Lib.hid hnj
              clear hqf hnj
              have hj7 : (j : Int) ≤ 7 := by omega
              have hj0 : (0 : Int) ≤ (j : Int) := by omega
              have hj9 : (j : Int) < 10 := by omega
              have hnx : ∀ i, i < j + 1 → nk = true → numOk a i = true := fun i hi h => by
                by_cases e : i < j
                · exact HALL.out i e
                · rw [show i = j from by omega, HNK.out, h]
              have HNX := Lib.hid hnx
              clear hnx
              cases c
              · by_cases hx : x = 0
                · subst hx
                  have hk : nk = true := by rw [HNJ.out]; simp [maxN]
                  go_wp2_with (first | (go_at_call 32; refine (HP.out _).mono ?_; rintro e w' ⟨rfl, rfl⟩) | (go_at_call 33; refine (between_any _ _ _ _).mono ?_; rintro e w' ⟨rfl, rfl⟩))
                  go_roundw
                  case rel => exact ⟨j + 1, by omega, by go_num, by first | rfl | trivial, fun i hi => HNX.out i hi hk⟩
                  case measure => simp [intOf]; omega
                · have hqq : q = false := HQF.out (by rw [HNJ.out]; simp [hx])
                  subst hqq
                  go_wp2_with (first | (go_at_call 32; refine (HP.out _).mono ?_; rintro e w' ⟨rfl, rfl⟩) | (go_at_call 33; refine (between_any _ _ _ _).mono ?_; rintro e w' ⟨rfl, rfl⟩))
                  go_ret
                  exact ⟨rfl, hnwB.nw hnw⟩
              · by_cases hx : 0 ≤ x ∧ x ≤ 4611686018427387903
                · have hk : nk = true := by rw [HNJ.out]; simp [maxN, hx]
                  have hd : decide (0 ≤ x ∧ x ≤ 4611686018427387903) = true := decide_eq_true hx
                  clear hx
                  go_wp2_with (first | (go_at_call 32; refine (HP.out _).mono ?_; rintro e w' ⟨rfl, rfl⟩) | (go_at_call 33; refine (between_any _ _ _ _).mono ?_; rintro e w' ⟨rfl, rfl⟩))
                  go_roundw
                  case rel => exact ⟨j + 1, by omega, by go_num, by first | rfl | trivial, fun i hi => HNX.out i hi hk⟩
                  case measure => simp [intOf]; omega
                · have hqq : q = false := HQF.out (by rw [HNJ.out]; unfold maxN; rw [decide_eq_false hx]; rfl)
                  subst hqq
                  have hd : decide (0 ≤ x ∧ x ≤ 4611686018427387903) = false := decide_eq_false hx
                  clear hx
                  go_wp2_with (first | (go_at_call 32; refine (HP.out _).mono ?_; rintro e w' ⟨rfl, rfl⟩) | (go_at_call 33; refine (between_any _ _ _ _).mono ?_; rintro e w' ⟨rfl, rfl⟩))
                  go_ret
                  exact ⟨rfl, hnwB.nw hnw⟩
            · have hj8' : j = 8 := by omega
              subst hj8'
              have hall := (List.all_eq_true (l := List.range 8) (p := numOk a)).2 fun i hi => HALL.out i (List.mem_range.1 hi)
              have h4 := HALL.out 4 (by omega)
              rw [HNUM.out 4, H4.out, Bool.and_eq_true] at h4
              have h4' := of_decide_eq_true h4.1
              have HF := HFI.out wr h4'.1 h4'.2 ((HRD.out.nw hnwB).nw hnw)
              rw [HVAL.out] at HF
              have hq3 := HQ2.out
              rw [hall] at hq3
              simp only [Bool.true_and] at hq3
              have q0 := own_at HBR.out (k := 0) (v := .int .i64 a.k) rfl
              have q1 := own_at HBR.out (k := 1) (v := .int .i64 a.o) rfl
              have q2 := own_at HBR.out (k := 2) (v := .int .i64 a.n) rfl
              have q3 := own_at HBR.out (k := 3) (v := .int .i64 a.p) rfl
              have q4 := own_at HBR.out (k := 4) (v := .int .i64 a.v) rfl
              have q5 := own_at HBR.out (k := 5) (v := .int .i64 a.f) rfl
              have q6 := own_at HBR.out (k := 6) (v := .int .i64 a.r) rfl
              have q7 := own_at HBR.out (k := 7) (v := .int .i64 a.z) rfl
              have q8 := own_at HBR.out (k := 8) (v := .int .i64 a.h) rfl
              have q9 := own_at HBR.out (k := 9) (v := .slice a.S a.sn a.sc) rfl
              have q10 := own_at HBR.out (k := 10) (v := .slice a.D a.dn a.dc) rfl
              have e0 := own_at HARR.out (hs_all l 0 (by omega))
              have e1 := own_at HARR.out (hs_all l 1 (by omega))
              clear h4 h4' hall
              generalize fitS a sp = s at *
              generalize l.contains 0 = c0 at *
              generalize l.contains 1 = c1 at *
              have HF := Lib.hid HF
              have HQ3 := Lib.hid hq3
              clear hq3
              by_cases hx0 : c0 = true ∧ ¬ 1 ≤ a.o
              · obtain ⟨rfl, hx0⟩ := hx0
                have hqq : q = false := by rw [HQ3.out]; simp [hx0]
                subst hqq
                have hx0' : a.o < 1 := by omega
                go_wp2_with fail
                go_ret
                exact ⟨rfl, hnwB.nw hnw⟩
              · have ho : c0 = false ∨ (c0 = true ∧ 1 ≤ a.o) := by
                  cases c0
                  · exact .inl rfl
                  · refine .inr ⟨rfl, Classical.not_not.1 fun h => hx0 ⟨rfl, h⟩⟩
                clear hx0
                by_cases hx1 : c1 = true ∧ ¬ (1 ≤ a.n ∧ a.n ≤ 4611686018427387902)
                · obtain ⟨rfl, hx1⟩ := hx1
                  have hqq : q = false := by
                    have : ¬ (1 ≤ a.n ∧ a.n < maxN) := by unfold maxN; omega
                    rw [HQ3.out, decide_eq_false this]
                    simp
                  subst hqq
                  have hd : decide (1 ≤ a.n ∧ a.n ≤ 4611686018427387902) = false := decide_eq_false hx1
                  clear hx1
                  rcases ho with rfl | ⟨rfl, ho⟩
                  all_goals
                    go_wp2_with (go_at_call 33; refine (between_any _ _ _ _).mono ?_; rintro e w' ⟨rfl, rfl⟩)
                    go_ret
                    exact ⟨rfl, hnwB.nw hnw⟩
                · have hn1 : c1 = false ∨ (c1 = true ∧ decide (1 ≤ a.n ∧ a.n ≤ 4611686018427387902) = true) := by
                    cases c1
                    · exact .inl rfl
                    · refine .inr ⟨rfl, decide_eq_true (Classical.not_not.1 fun h => hx1 ⟨rfl, h⟩)⟩
                  have hqs : q = s := by
                    rw [HQ3.out]
                    have h1 : (!c0 || decide (1 ≤ a.o)) = true := by
                      rcases ho with rfl | ⟨rfl, ho⟩
                      · rfl
                      · simp [ho]
                    have h2 : (!c1 || decide (1 ≤ a.n ∧ a.n < maxN)) = true := by
                      rcases hn1 with rfl | ⟨rfl, hn1⟩
                      · rfl
                      · have h3 := of_decide_eq_true hn1
                        have : 1 ≤ a.n ∧ a.n < maxN := by unfold maxN; omega
                        simp [this]
                    rw [h1, h2]
                    simp
                  clear hx1
                  subst hqs
                  rcases ho with rfl | ⟨rfl, ho⟩ <;> rcases hn1 with rfl | ⟨rfl, hn1⟩ <;> cases q
                  all_goals
                    go_wp2_with (first
                      | (go_at_call 33; refine (between_any _ _ _ _).mono ?_; rintro e w' ⟨rfl, rfl⟩)
                      | (go_at_call 34; refine HF.out.mono ?_; rintro e w5 ⟨rfl, hnw5⟩))
                    go_ret
                    exact ⟨rfl, (hnwB.nw hnw).nw hnw5⟩

end Go.Proofs.YtjgnapjhlhdgfaaDoor
