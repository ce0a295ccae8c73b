/- Walks of the document's answer for layer 1 (lanternref01), second part: Read, Join, All. -/
import Derived.Test.YtcakjjbfhbldeaaSd
set_option linter.unusedVariables false
set_option linter.unusedSimpArgs false
namespace Go.Proofs.Ytcakjjbfhbldeaa
open Go.RowKit

set_option maxRecDepth 100000 in
set_option maxHeartbeats 800000 in
theorem refRead_any (A : Option Addr) (n c : Nat) (ok : Nat → Prop) (xs : List UInt8) (w : World) (hr : Rd w ok 1 A n (bys xs)) (hn : n ≤ 140737488355328) :
    Calls Try.prog 15 #[.slice A n c] w fun e w' => e = .returned (rdV (rdS xs 0 0)) ∧ w = w' := by
  have hl : xs.length = n := by have := hr.len; rwa [bys_len] at this
  subst hl
  have H0 : RdInv xs 0 0 := ⟨by rw [List.drop_zero], by omega⟩
  go_enter Try.func15, Try.ntmps15
  go_wp2
  go_loop [5, 6] (fun v i => ∃ k a : Nat, k ≤ xs.length ∧ i = .int .i64 k ∧ v = .int .u64 a ∧ RdInv xs k a ∧ Hid (0 < k → ¬ ∃ h : 0 < xs.length, xs[0].toNat = 128)) (fun _ i => xs.length - (intOf i).toNat)
  case atStart => exact ⟨0, 0, by omega, rfl, rfl, H0, fun h => by omega⟩
  case round =>
    obtain ⟨k, a, hk, rfl, rfl, hI, hf⟩ := hrel
    by_cases hlt : k < xs.length
    · obtain ⟨ad, hA, _, hc⟩ := hr.byte hlt
      have hb : xs[k].toNat < 256 := xs[k].toNat_lt
      have HS := Lib.hid (fun hf ha hc => hI.step hlt hf ha hc)
      have HL := Lib.hid (fun ha hc => hI.last hlt ha hc)
      have HR := Lib.hid (fun hf ha => hI.range hlt hf ha)
      have HH : Hid (k = 0 → xs[k].toNat = 128 → rdS xs 0 0 = (0, 0, 11)) := fun hk0 h1 => by
        subst hk0
        match xs, hlt, h1 with
        | b :: bs, _, h1 => exact rdS_shape h1
      have HF : Hid ((k = 0 → xs[k].toNat ≠ 128) → ¬ ∃ h : 0 < xs.length, xs[0].toNat = 128) := fun h1 => by
        by_cases hk0 : k = 0
        · subst hk0
          rintro ⟨_, h2⟩
          exact h1 rfl h2
        · exact hf.out (by omega)
      clear hI hf
      generalize xs[k].toNat = b at *
      by_cases hk0 : k = 0
      · subst hk0
        rw [add_zero_] at hc
        by_cases h128 : b = 128
        · subst h128
          have HH' := Lib.hid (HH.out rfl rfl)
          subst hA
          clear HH HF HR HL HS
          go_wp2
          go_ret3
          exact ⟨by rw [HH'.out]; rfl, rfl⟩
        · have h128' : ((b : Int) == 128) = false := by rw [beq_eq_false_iff_ne]; omega
          have HN := Lib.hid (HF.out fun _ => h128)
          clear HH HF h128
          subst hA
          go_wp2
          · go_ret3
            exact ⟨by rw [HR.out HN.out (by omega)]; rfl, rfl⟩
          · go_ret3
            rw [HL.out (by omega) (by omega)]
            exact ⟨by unfold rdV; go_num, rfl⟩
          · go_round
            case rel => exact ⟨1, 128 * a + (b - 128), by omega, by go_num, by go_num, HS.out HN.out (by omega) (by omega), fun _ => HN.out⟩
            case measure => simp [intOf]; omega
      · have HN := Lib.hid (HF.out fun h => absurd h hk0)
        clear HH HF
        subst hA
        go_wp2
        · go_ret3
          exact ⟨by rw [HR.out HN.out (by omega)]; rfl, rfl⟩
        · go_ret3
          rw [HL.out (by omega) (by omega)]
          exact ⟨by unfold rdV; go_num, rfl⟩
        · go_round
          case rel => exact ⟨k + 1, 128 * a + (b - 128), by omega, by go_num, by go_num, HS.out HN.out (by omega) (by omega), fun _ => HN.out⟩
          case measure => simp [intOf]; omega
    · have hS := Lib.hid (hI.short hlt)
      clear hI
      go_wp2
      go_ret3
      exact ⟨by rw [hS.out]; rfl, rfl⟩

set_option maxHeartbeats 800000 in
theorem refJoin_any (A : Option Addr) (n c : Nat) (ok : Nat → Prop) (l : List Nat) (w : World) (hr : Rd w ok 1 A n (wds l)) (hl : ∀ x ∈ l, x < 18446744073709551616) (hn : 10 * n ≤ 140737488350000) :
    Calls Try.prog 18 #[.slice A n c] w fun e w' => ∃ v, e = .returned v ∧ w'.ownsRow w.heap.size 5 1 v (joinE l).length (bys (joinE l)) ∧ Nw w w' := by
  have hln : l.length = n := by have := hr.len; rwa [wds_len] at this
  subst hln
  have ei := Try.elU8
  go_enter Try.func18, Try.ntmps18
  go_wp2
  go_loopw [3, 4] (fun v i wr => ∃ k : Nat, k ≤ l.length ∧ i = .int .i64 k ∧ wr.ownsRow w.heap.size 5 1 v (joinE (l.take k)).length (bys (joinE (l.take k))) ∧ Nw w wr)
    (fun _ i _ => l.length - (intOf i).toNat)
  case atStart => exact ⟨0, by omega, rfl, by simpa [joinE, bys] using World.ownsRow_nil w _ _ _, Kp.refl _ _⟩
  case round =>
    obtain ⟨k, hk, rfl, hown, hnw⟩ := hrel
    by_cases hlt : k < l.length
    · obtain ⟨ad, rfl, _, hc⟩ := (hr.nw hnw).word hlt
      have hx : l[k] < 18446744073709551616 := hl _ (List.getElem_mem hlt)
      have hj := joinE_take_le l k hl
      have HT := Lib.hid (joinE_take_succ l k hlt)
      have hsz := hnw.size
      generalize l[k] = x at *
      have HB := Lib.hid (refBytes_any (x : Int) wr (by omega) (by omega))
      have hs10 := siz_le hx
      rw [Int.toNat_natCast] at HB
      clear hx
      go_wp2_with (first
        | (go_at_call 20; refine HB.out.mono ?_; rintro e w1 ⟨v1, rfl, hown1, hnw1⟩; obtain ⟨B, d, rfl, hd, hrd⟩ := own_read hown1; have hown' := own_nw hown hnw1)
        | (at_builtin; refine wpList_appv _ rfl (.tmp 11) (.tmp 16) 25 5 rfl ei w.heap.size _ _ _ hown' rfl _ B _ d _ hrd rfl (bys_one _) (by simp only [maxLen]; omega) (by omega) (by have := hnw1.size; omega) ?_; intro v2 w2 hown2 hkp2 hat2))
      go_roundw
      case rel =>
        refine ⟨k + 1, by omega, by go_num, ?_, Nw.row (hnw.nw hnw1) hown' hkp2⟩
        rw [HT.out]
        simpa [enc_len, bys_app] using hown2
      case measure => simp [intOf]; omega
    · go_wp2
      go_ret
      have e : l.take k = l := List.take_of_length_le (by omega)
      rw [e] at hown
      exact ⟨_, rfl, hown, hnw⟩

theorem refRead_tup (A : Option Addr) (n c : Nat) (ok : Nat → Prop) (xs : List UInt8) (w : World) (hr : Rd w ok 1 A n (bys xs)) (hn : n ≤ 140737488355328) (x k e : Nat) (h : rdS xs 0 0 = (x, k, e)) :
    Calls Try.prog 15 #[.slice A n c] w fun en w' => en = .returned (.tuple #[.int .u64 (x : Int), .int .i64 (k : Int), .int .i64 (e : Int)]) ∧ w = w' :=
  (refRead_any A n c ok xs w hr hn).mono fun _ _ he => ⟨by rw [he.1, h]; rfl, he.2⟩

set_option maxHeartbeats 800000 in
theorem refAll_any (A : Option Addr) (n c : Nat) (ok : Nat → Prop) (xs : List UInt8) (w : World) (hr0 : Rd w ok 1 A n (bys xs)) (hc : n ≤ c) (hn : n ≤ 17592186044000) :
    Calls Try.prog 23 #[.slice A n c] w fun e w' => ∃ v, e = .returned (.tuple #[v, .int .i64 ((allS xs).2 : Int)]) ∧ w'.ownsRow w.heap.size 27 1 v (allS xs).1.length (wds (allS xs).1) ∧ Nw w w' := by
  have hln : xs.length = n := by have := hr0.len; rwa [bys_len] at this
  subst hln
  obtain ⟨okW, hW⟩ : ∃ okW : Nat → Prop, okW = fun k => ok k ∧ k < w.heap.size := ⟨_, rfl⟩
  have hr : Rd w okW 1 A xs.length (bys xs) := by rw [hW]; exact hr0.old (by omega)
  have hok : ∀ k, okW k → k < w.heap.size := by rw [hW]; exact fun k h => h.2
  clear hW hr0
  go_enter Try.func23, Try.ntmps23
  go_wp2
  go_loopw [4, 5] (fun v i wr => ∃ (j : Nat) (got : List Nat), AllInv xs j got ∧ i = .int .i64 j ∧ Rd wr okW 1 A xs.length (bys xs) ∧
      wr.ownsRow w.heap.size 27 1 v got.length (wds got) ∧ Nw w wr)
    (fun _ i _ => xs.length - (intOf i).toNat)
  case atStart => exact ⟨0, [], AllInv.start xs, rfl, hr, World.ownsRow_nil w _ _ _, Kp.refl _ _⟩
  case round =>
    obtain ⟨j, got, hI, rfl, hrd, hown, hnw⟩ := hrel
    have hjl := hI.1
    have hgl := hI.2.1
    have HOK := Lib.hid hok
    clear hok
    by_cases hlt : j < xs.length
    · have hrc := hrd.cut2 hlt hc
      rw [← bys_drop] at hrc
      generalize hq : rdS (xs.drop j) 0 0 = r
      obtain ⟨x, k, e⟩ := r
      have HR := Lib.hid (refRead_tup _ _ (c - j) okW (xs.drop j) wr hrc (by omega) x k e hq)
      have hj0 : (0 : Int) ≤ (j : Int) := by omega
      have hj1 : (j : Int) ≤ (xs.length : Int) := by omega
      by_cases he : e = 0
      · subst he
        have hk := rdS_back hq
        have hkl : k ≤ xs.length - j := by have := hk.2.1; simpa using this
        have hk1 := hk.1
        have hS := Lib.hid (hI.step hlt hq)
        clear hI hk hq
        have ei := Try.elU64
        go_wp2_with (first
          | (go_at_call 15; refine HR.out.mono ?_; rintro e w' ⟨rfl, rfl⟩)
          | (at_builtin; refine wpList_app1 wr _ _ rfl (.tmp 24) (.tmp 26) 34 27 rfl ei w.heap.size _ _ _ hown rfl 1 1 rfl rfl (by simp [Value.oneCell']) (by simp only [maxLen]; omega) (by omega) hnw.size ?_; intro v1 w1 hown1 hkp1 hat1))
        go_roundw
        case rel =>
          refine ⟨j + k, got ++ [x], hS.out, by go_num, hrd.row HOK.out hown hkp1, ?_, hnw.row hown hkp1⟩
          simpa [wds, wv] using hown1
        case measure => simp [intOf]; omega
      · have hB := Lib.hid (hI.bad hlt hq he)
        have he' : ((e : Int) != 0) = true := by rw [bne_iff_ne]; omega
        clear hI hq he
        go_wp2_with (go_at_call 15; refine HR.out.mono ?_; rintro e w' ⟨rfl, rfl⟩)
        go_ret2
        rw [hB.out]
        exact ⟨_, rfl, World.ownsRow_nil _ _ _ _, hnw⟩
    · have hD := Lib.hid (hI.done hlt)
      clear hI
      go_wp2
      go_ret2
      rw [hD.out]
      exact ⟨_, rfl, hown, hnw⟩

end Go.Proofs.Ytcakjjbfhbldeaa
