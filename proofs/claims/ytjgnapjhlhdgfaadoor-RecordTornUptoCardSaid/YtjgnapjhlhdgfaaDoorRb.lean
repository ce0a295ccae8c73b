/- Sets of spans: are they right? The document's answer and the program's. -/
import Derived.Test.YtjgnapjhlhdgfaaDoorRa
set_option linter.unusedVariables false
set_option linter.unusedSimpArgs false
namespace Go.Proofs.YtjgnapjhlhdgfaaDoor
open Go.RowKit

def spv (s : Int × Int) : List Value := [.int .i64 s.1, .int .i64 s.2]
def sps (l : List (Int × Int)) : List Value := l.flatMap spv
theorem sps_len (l : List (Int × Int)) : (sps l).length = l.length * 2 := by
  induction l with
  | nil => rfl
  | cons a l ih =>
    have : sps (a :: l) = spv a ++ sps l := rfl
    rw [this, List.length_append, ih]
    simp [spv]
    omega
theorem sps_at : ∀ {l : List (Int × Int)} {k : Nat} (h : k < l.length), (sps l)[k * 2]? = some (.int .i64 (l[k]'h).1) ∧ (sps l)[k * 2 + 1]? = some (.int .i64 (l[k]'h).2)
  | a :: l, 0, _ => ⟨rfl, rfl⟩
  | a :: l, k + 1, h => by
    have h1 := sps_at (l := l) (k := k) (by simpa using h)
    have e : sps (a :: l) = .int .i64 a.1 :: .int .i64 a.2 :: sps l := rfl
    rw [e, show (k + 1) * 2 = k * 2 + 1 + 1 from by omega]
    simp only [List.getElem?_cons_succ, List.getElem_cons_succ]
    exact h1
theorem Rd.span {w : World} {ok : Nat → Prop} {A : Option Addr} {n k : Nat} {l : List (Int × Int)} (h : Rd w ok 2 A n (sps l)) (hk : k < l.length) :
    ∃ ad, A = some ad ∧ ok ad.block ∧ w.cell? (ad.add (k * 2)) = some (.int .i64 (l[k]'hk).1) ∧ w.cell? ⟨(ad.add (k * 2)).block, (ad.add (k * 2)).off + 1, none⟩ = some (.int .i64 (l[k]'hk).2) := by
  have hl := h.1
  rw [sps_len] at hl
  obtain ⟨ad, hA, ho, hc⟩ := h.2 (by omega)
  have h1 := sps_at hk
  have h2 : w.cell? ((ad.add (k * 2)).add 1) = _ := (add_of_add ad (k * 2) 1).symm ▸ hc _ _ h1.2
  exact ⟨ad, hA, ho, hc _ _ h1.1, h2⟩
--  exact ⟨ad, hA, ho, hc _ _ h1.1, (add_of_add ad (k * 2) 1).symm ▸ hc _ _ h1.2⟩

def maxN : Int := 4611686018427387903
def mayS (s : Int × Int) : Bool := decide (0 ≤ s.1) && decide (s.1 < s.2) && decide (s.2 ≤ maxN)
def okAt (l : List (Int × Int)) (i : Nat) : Bool :=
  match l[i]? with
  | none => true
  | some s => mayS s && (match i with | 0 => true | j + 1 => match l[j]? with | none => true | some t => decide (t.2 < s.1))
def okS (l : List (Int × Int)) : Bool := decide (l.length ≤ 2000) && (List.range l.length).all (okAt l)

theorem retb {x y : Bool} (h : x = y) : (Ending.returned (.bool x) : Ending) = .returned (.bool y) := by rw [h]

theorem may3_any (a b : Int) (w : World) : Calls Tryd.prog 90 #[.agg #[.int .i64 a, .int .i64 b]] w fun e w' => e = .returned (.bool (mayS (a, b))) ∧ Nw w w' := by
  go_enter Tryd.func90, Tryd.ntmps90
  go_wp2
  all_goals
    go_ret
    refine ⟨retb ?_, (Kp.refl _ _).alloc _⟩
    rw [Bool.eq_iff_iff]
    unfold mayS maxN
    simp only [Bool.and_eq_true, decide_eq_true_eq, Bool.false_eq_true, false_iff]
    omega

theorem may_any (a b : Int) (w : World) : Calls Tryd.prog 76 #[.agg #[.int .i64 a, .int .i64 b]] w fun e w' => e = .returned (.bool (mayS (a, b))) ∧ Nw w w' := by
  go_enter Tryd.func76, Tryd.ntmps76
  go_wp2
  all_goals
    go_ret
    refine ⟨retb ?_, (Kp.refl _ _).alloc _⟩
    rw [Bool.eq_iff_iff]
    unfold mayS maxN
    simp only [Bool.and_eq_true, decide_eq_true_eq, Bool.false_eq_true, false_iff]
    omega

theorem okS_false {l : List (Int × Int)} {i : Nat} (h : okAt l i = false) : okS l = false := by
  by_cases hi : i < l.length
  · unfold okS
    rw [Bool.and_eq_false_iff]
    refine .inr ?_
    rw [List.all_eq_false]
    exact ⟨i, List.mem_range.2 hi, by simp [h]⟩
  · exfalso
    unfold okAt at h
    rw [List.getElem?_eq_none (by omega)] at h
    simp at h
theorem okS_true {l : List (Int × Int)} (hl : l.length ≤ 2000) (h : ∀ i, i < l.length → okAt l i = true) : okS l = true := by
  unfold okS
  rw [Bool.and_eq_true]
  exact ⟨by simpa using hl, List.all_eq_true.2 fun i hi => h i (List.mem_range.1 hi)⟩
theorem okS_long {l : List (Int × Int)} (hl : 2000 < l.length) : okS l = false := by
  unfold okS
  rw [Bool.and_eq_false_iff]
  refine .inl ?_
  simp
  omega
theorem okAt_zero {l : List (Int × Int)} {s : Int × Int} (h : l[0]? = some s) : okAt l 0 = mayS s := by simp [okAt, h]
theorem okAt_succ {l : List (Int × Int)} {j : Nat} {s t : Int × Int} (h : l[j + 1]? = some s) (h' : l[j]? = some t) : okAt l (j + 1) = (mayS s && decide (t.2 < s.1)) := by simp [okAt, h, h']

set_option maxRecDepth 100000 in
set_option maxHeartbeats 1600000 in
theorem right3_any (A : Option Addr) (n c : Nat) (ok : Nat → Prop) (l : List (Int × Int)) (w : World) (hr : Rd w ok 2 A n (sps l)) (hn : n ≤ 9223372036854775807) :
    Calls Tryd.prog 88 #[.slice A n c] w fun e w' => e = .returned (.bool (okS l)) ∧ Nw w w' := by
  have hln : l.length = n := by have := hr.1; rw [sps_len] at this; omega
  subst hln
  have HF := Lib.hid (fun i => okS_false (l := l) (i := i))
  have HT := Lib.hid (fun h => okS_true (l := l) h)
  have HO0 := Lib.hid (fun s => okAt_zero (l := l) (s := s))
  have HO1 := Lib.hid (fun j s t => okAt_succ (l := l) (j := j) (s := s) (t := t))
  by_cases hlong : 2000 < l.length
  · have := okS_long hlong
    rw [this]
    go_enter Tryd.func88, Tryd.ntmps88
    go_wp2
    go_ret
    exact ⟨rfl, Kp.refl _ _⟩
  · generalize okS l = q at *
    go_enter Tryd.func88, Tryd.ntmps88
    go_wp2
    go_loopw [3] (fun i wr => ∃ k : Nat, k ≤ l.length ∧ i = .int .i64 k ∧ (∀ j, j < k → okAt l j = true) ∧ Nw w wr) (fun i _ => l.length - (intOf i).toNat)
    case atStart => exact ⟨0, by omega, rfl, fun j hj => by omega, Kp.refl _ _⟩
    case round =>
      obtain ⟨k, hk, rfl, hall, hnw⟩ := hrel
      have HALL := Lib.hid hall
      clear hall
      by_cases hlt : k < l.length
      · obtain ⟨ad, rfl, _, hc1, hc2⟩ := (hr.nw hnw).span hlt
        have hgk : l[k]? = some l[k] := List.getElem?_eq_getElem hlt
        generalize l[k] = s at *
        obtain ⟨a, b⟩ := s
        have hm := fun W => may3_any a b W
        have h1 : (k : Int) < (l.length : Int) := by omega
        by_cases hms : mayS (a, b) = true
        · rw [hms] at hm
          have HM := Lib.hid hm
          clear hm
          have HMS := Lib.hid hms
          clear hms
          cases k with
          | zero =>
            simp only [Nat.zero_mul, add_zero_] at hc1 hc2
            go_wp2_with (go_at_call 90; refine (HM.out _).mono ?_; rintro e w2 ⟨rfl, hnw2⟩)
            go_quiet (fail)
            go_wp2
            go_roundw
            case rel => exact ⟨1, by omega, by go_num, (fun j hj => by rw [show j = 0 from by omega, HO0.out _ hgk]; exact HMS.out), Kp.drewN (hnw.nw hnw2) _⟩
            case measure => simp [intOf]; omega
          | succ j =>
            obtain ⟨ad', hA', _, hd1, hd2⟩ := (hr.nw hnw).span (k := j) (by omega)
            have hgj : l[j]? = some l[j] := List.getElem?_eq_getElem (by omega)
            injection hA' with hA'
            subst hA'
            generalize l[j] = s' at *
            obtain ⟨a', b'⟩ := s'
            have h2 : (0 : Int) < ((j + 1 : Nat) : Int) := by omega
            have hoo := HO1.out j _ _ hgk hgj
            rw [HMS.out, Bool.true_and] at hoo
            by_cases hab : b' < a
            · rw [decide_eq_true hab] at hoo
              have HOO := Lib.hid hoo
              have h3 : ¬ a ≤ b' := by omega
              clear hoo hab
              go_wp2_with (go_at_call 90; refine (HM.out _).mono ?_; rintro e w2 ⟨rfl, hnw2⟩; have hc1' := (Kp.cell hnw2 (World.block_lt_of_cell? _ _ hc1) (fun e => e)).trans hc1; have hd2' := (Kp.cell hnw2 (World.block_lt_of_cell? _ _ hd2) (fun e => e)).trans hd2)
              have hd0 : decide ((0 : Int) < ((j + 1 : Nat) : Int)) = true := by simp
              have hd3 : decide (a ≤ b') = false := by simp; omega
              go_quiet (fail)
              go_wp2
              go_roundw
              case rel =>
                refine ⟨j + 1 + 1, by omega, by go_num, fun i hi => ?_, Kp.drewN (hnw.nw hnw2) _⟩
                by_cases e : i < j + 1
                · exact HALL.out i e
                · rw [show i = j + 1 from by omega]
                  exact HOO.out
              case measure => simp [intOf]; omega
            · rw [decide_eq_false hab] at hoo
              have hq : q = false := HF.out (j + 1) hoo
              subst hq
              have h3 : a ≤ b' := by omega
              have hd0 : decide ((0 : Int) < ((j + 1 : Nat) : Int)) = true := by simp
              have hd3 : decide (a ≤ b') = true := by simp; omega
              clear hoo hab
              go_wp2_with (go_at_call 90; refine (HM.out _).mono ?_; rintro e w2 ⟨rfl, hnw2⟩; have hc1' := (Kp.cell hnw2 (World.block_lt_of_cell? _ _ hc1) (fun e => e)).trans hc1; have hd2' := (Kp.cell hnw2 (World.block_lt_of_cell? _ _ hd2) (fun e => e)).trans hd2)
              go_quiet (fail)
              go_wp2
              go_ret
              exact ⟨rfl, Kp.drewN (hnw.nw hnw2) _⟩
        · rw [Bool.not_eq_true] at hms
          rw [hms] at hm
          have hq : q = false := HF.out k (by
            cases k with
            | zero => rw [HO0.out _ hgk, hms]
            | succ j => rw [HO1.out j _ _ hgk (List.getElem?_eq_getElem (by omega)), hms, Bool.false_and])
          subst hq
          have HM := Lib.hid hm
          clear hm
          go_wp2_with (go_at_call 90; refine (HM.out _).mono ?_; rintro e w2 ⟨rfl, hnw2⟩)
          go_quiet (fail)
          go_wp2
          go_ret
          exact ⟨rfl, Kp.drewN (hnw.nw hnw2) _⟩
      · have hq : q = true := HT.out (by omega) fun i hi => HALL.out i (by omega)
        subst hq
        go_wp2
        go_ret
        exact ⟨rfl, hnw⟩

set_option maxRecDepth 100000 in
set_option maxHeartbeats 1600000 in
theorem right_any (A : Option Addr) (n c : Nat) (ok : Nat → Prop) (l : List (Int × Int)) (w : World) (hr : Rd w ok 2 A n (sps l)) (hn : n ≤ 9223372036854775807) :
    Calls Tryd.prog 53 #[.slice A n c] w fun e w' => e = .returned (.bool (okS l)) ∧ Nw w w' := by
  have hln : l.length = n := by have := hr.1; rw [sps_len] at this; omega
  subst hln
  have HF := Lib.hid (fun i => okS_false (l := l) (i := i))
  have HT := Lib.hid (fun h => okS_true (l := l) h)
  have HO0 := Lib.hid (fun s => okAt_zero (l := l) (s := s))
  have HO1 := Lib.hid (fun j s t => okAt_succ (l := l) (j := j) (s := s) (t := t))
  by_cases hlong : 2000 < l.length
  · have := okS_long hlong
    rw [this]
    go_enter Tryd.func53, Tryd.ntmps53
    go_wp2
    go_ret
    exact ⟨rfl, Kp.refl _ _⟩
  · generalize okS l = q at *
    go_enter Tryd.func53, Tryd.ntmps53
    go_wp2
    go_loopw [10] (fun i wr => ∃ k : Nat, k ≤ l.length ∧ i = .int .i64 k ∧ (∀ j, j < k → okAt l j = true) ∧ Nw w wr) (fun i _ => l.length - (intOf i).toNat)
    case atStart => exact ⟨0, by omega, rfl, fun j hj => by omega, Kp.refl _ _⟩
    case round =>
      obtain ⟨k, hk, rfl, hall, hnw⟩ := hrel
      have HALL := Lib.hid hall
      clear hall
      by_cases hlt : k < l.length
      · obtain ⟨ad, rfl, _, hc1, hc2⟩ := (hr.nw hnw).span hlt
        have hgk : l[k]? = some l[k] := List.getElem?_eq_getElem hlt
        generalize l[k] = s at *
        obtain ⟨a, b⟩ := s
        have hm := fun W => may_any a b W
        have h1 : (k : Int) < (l.length : Int) := by omega
        by_cases hms : mayS (a, b) = true
        · rw [hms] at hm
          have HM := Lib.hid hm
          clear hm
          have HMS := Lib.hid hms
          clear hms
          have q1 := NwS.cell (p := ⟨wr.heap.size, 0, none⟩) (w := (wr.alloc (.cells #[.int .i64 a, .int .i64 b] 56))) (v := .int .i64 a) (by simp)
          have q2 := NwS.cell (p := ⟨wr.heap.size, 1, none⟩) (w := (wr.alloc (.cells #[.int .i64 a, .int .i64 b] 56))) (v := .int .i64 b) (by simp)
          cases k with
          | zero =>
            simp only [Nat.zero_mul, add_zero_] at hc1 hc2
            go_wp2
            refine wp_region_nw (by kernel_rfl) (by kernel_rfl) ?_
            repeat (go_big_quiet_step ((go_at_call 76; exact calls_nw (HM.out _))))
            refine wpQuiet_nil ?_
            intro w2 hnw2
            go_wp2
            go_roundw
            case rel => exact ⟨1, by omega, by go_num, (fun j hj => by rw [show j = 0 from by omega, HO0.out _ hgk]; exact HMS.out), (hnw.alloc _).nw hnw2⟩
            case measure => simp [intOf]; omega
          | succ j =>
            obtain ⟨ad', hA', _, hd1, hd2⟩ := (hr.nw hnw).span (k := j) (by omega)
            have hgj : l[j]? = some l[j] := List.getElem?_eq_getElem (by omega)
            injection hA' with hA'
            subst hA'
            generalize l[j] = s' at *
            obtain ⟨a', b'⟩ := s'
            have h2 : (0 : Int) < ((j + 1 : Nat) : Int) := by omega
            have h4 : (j : Int) < (l.length : Int) := by omega
            have h5 : (0 : Int) ≤ (j : Int) := by omega
            have hoo := HO1.out j _ _ hgk hgj
            rw [HMS.out, Bool.true_and] at hoo
            have hd0 : decide ((0 : Int) < ((j + 1 : Nat) : Int)) = true := by simp
            have q3 := NwS.cell (((Kp.refl _ wr).alloc (.cells #[.int .i64 a, .int .i64 b] 56)).cell (S := fun _ => False) (World.block_lt_of_cell? _ _ hd2) (fun e => e) |>.trans hd2)
            by_cases hab : b' < a
            · rw [decide_eq_true hab] at hoo
              have HOO := Lib.hid hoo
              have h3 : ¬ a ≤ b' := by omega
              have hd3 : decide (a ≤ b') = false := by simp; omega
              clear hoo hab
              go_wp2
              refine wp_region_nw (by kernel_rfl) (by kernel_rfl) ?_
              repeat (go_big_quiet_step ((go_at_call 76; exact calls_nw (HM.out _))))
              refine wpQuiet_nil ?_
              intro w2 hnw2
              go_wp2
              go_roundw
              case rel =>
                refine ⟨j + 1 + 1, by omega, by go_num, fun i hi => ?_, (hnw.alloc _).nw hnw2⟩
                by_cases e : i < j + 1
                · exact HALL.out i e
                · rw [show i = j + 1 from by omega]
                  exact HOO.out
              case measure => simp [intOf]; omega
            · rw [decide_eq_false hab] at hoo
              have hq : q = false := HF.out (j + 1) hoo
              subst hq
              have h3 : a ≤ b' := by omega
              have hd3 : decide (a ≤ b') = true := by simp; omega
              clear hoo hab
              go_wp2
              refine wp_region_nw (by kernel_rfl) (by kernel_rfl) ?_
              repeat (go_big_quiet_step ((go_at_call 76; exact calls_nw (HM.out _))))
              refine wpQuiet_nil ?_
              intro w2 hnw2
              go_wp2
              go_ret
              exact ⟨rfl, (hnw.alloc _).nw hnw2⟩
        · rw [Bool.not_eq_true] at hms
          rw [hms] at hm
          have hq : q = false := HF.out k (by
            cases k with
            | zero => rw [HO0.out _ hgk, hms]
            | succ j => rw [HO1.out j _ _ hgk (List.getElem?_eq_getElem (by omega)), hms, Bool.false_and])
          subst hq
          have HM := Lib.hid hm
          clear hm
          go_wp2
          have q1 := NwS.cell (p := ⟨wr.heap.size, 0, none⟩) (w := (wr.alloc (.cells #[.int .i64 a, .int .i64 b] 56))) (v := .int .i64 a) (by simp)
          have q2 := NwS.cell (p := ⟨wr.heap.size, 1, none⟩) (w := (wr.alloc (.cells #[.int .i64 a, .int .i64 b] 56))) (v := .int .i64 b) (by simp)
          refine wp_region_nw (by kernel_rfl) (by kernel_rfl) ?_
          repeat (go_big_quiet_step ((go_at_call 76; exact calls_nw (HM.out _))))
          refine wpQuiet_nil ?_
          intro w2 hnw2
          go_wp2
          go_ret
          exact ⟨rfl, (hnw.alloc _).nw hnw2⟩
      · have hq : q = true := HT.out (by omega) fun i hi => HALL.out i (by omega)
        subst hq
        go_wp2
        go_ret
        exact ⟨rfl, hnw⟩

end Go.Proofs.YtjgnapjhlhdgfaaDoor
