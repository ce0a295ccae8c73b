/- Walks of layer 1 (sdnv), second part: Join and All. -/
import Derived.Test.YtcakjjbfhbldeaaSa
set_option linter.unusedVariables false
set_option linter.unusedSimpArgs false
namespace Go.Proofs.Ytcakjjbfhbldeaa
open Go.RowKit

theorem Try.elU64 : Elem Try.prog 34 27 (.int .u64 0) 1 8 := ⟨Try.underlying34, by kernel_rfl, rfl, by omega⟩

theorem joinE_take_le (l : List Nat) (k : Nat) (h : ∀ n ∈ l, n < 18446744073709551616) : (joinE (l.take k)).length ≤ 10 * l.length := by
  have h1 := joinE_len (l.take k) fun n hn => h n (List.mem_of_mem_take hn)
  have h2 : (l.take k).length ≤ l.length := by simp; omega
  omega
theorem joinE_take_succ (l : List Nat) (k : Nat) (hk : k < l.length) : joinE (l.take (k + 1)) = joinE (l.take k) ++ enc l[k] := by
  rw [List.take_succ_eq_append_getElem hk, joinE_snoc]

set_option maxHeartbeats 800000 in
theorem join_any (A : Option Addr) (n c : Nat) (ok : Nat → Prop) (l : List Nat) (w : World) (hr : Rd w ok 1 A n (wds l)) (hl : ∀ x ∈ l, x < 18446744073709551616) (hn : 10 * n ≤ 140737488350000) :
    Calls Try.prog 19 #[.slice A n c] w fun e w' => ∃ v, e = .returned v ∧ w'.ownsRow w.heap.size 5 1 v (joinE l).length (bys (joinE l)) ∧ Nw w w' := by
  have hln : l.length = n := by have := hr.len; rwa [wds_len] at this
  subst hln
  go_enter Try.func19, Try.ntmps19
  go_wp2
  go_loopw [3, 8] (fun v i wr => ∃ k : Nat, k ≤ l.length ∧ i = .int .i64 k ∧ wr.ownsRow w.heap.size 5 1 v (joinE (l.take k)).length (bys (joinE (l.take k))) ∧ Nw w wr)
    (fun _ i _ => l.length - (intOf i).toNat)
  case atStart => exact ⟨0, by omega, rfl, by simpa [joinE, bys] using World.ownsRow_nil w _ _ _, Kp.refl _ _⟩
  case round =>
    obtain ⟨k, hk, rfl, hown, hnw⟩ := hrel
    by_cases hlt : k < l.length
    · obtain ⟨ad, rfl, _, hc⟩ := (hr.nw hnw).word hlt
      have hx : l[k] < 18446744073709551616 := hl _ (List.getElem_mem hlt)
      have hj := joinE_take_le l k hl
      have HT := Lib.hid (joinE_take_succ l k hlt)
      have hsz := hnw.size
      generalize l[k] = x at *
      go_wp2_with (go_at_call 27; refine (put_any _ _ _ _ _ _ (by omega) (by omega) hown hsz (by omega)).mono ?_; rintro e w' ⟨v1, rfl, hown1, hkp1, hat1⟩)
      go_roundw
      case rel =>
        refine ⟨k + 1, by omega, by go_num, ?_, hnw.row hown hkp1⟩
        rw [HT.out]
        simpa [enc_len] using hown1
      case measure => simp [intOf]; omega
    · go_wp2
      go_ret
      have e : l.take k = l := List.take_of_length_le (by omega)
      rw [e] at hown
      exact ⟨_, rfl, hown, hnw⟩

theorem read_tup (A : Option Addr) (n c : Nat) (ok : Nat → Prop) (xs : List UInt8) (w : World) (hr : Rd w ok 1 A n (bys xs)) (hn : n ≤ 140737488355328) (x k e : Nat) (h : rdS xs 0 0 = (x, k, e)) :
    Calls Try.prog 13 #[.slice A n c] w fun en w' => en = .returned (.tuple #[.int .u64 (x : Int), .int .i64 (k : Int), .int .i64 (e : Int)]) ∧ w = w' :=
  (read_any A n c ok xs w hr hn).mono fun _ _ he => ⟨by rw [he.1, h]; rfl, he.2⟩

set_option maxHeartbeats 800000 in
theorem all_any (A : Option Addr) (n c : Nat) (ok : Nat → Prop) (xs : List UInt8) (w : World) (hr0 : Rd w ok 1 A n (bys xs)) (hc : n ≤ c) (hn : n ≤ 17592186044000) :
    Calls Try.prog 22 #[.slice A n c] w fun e w' => ∃ v, e = .returned (.tuple #[v, .int .i64 ((allS xs).2 : Int)]) ∧ w'.ownsRow w.heap.size 27 1 v (allS xs).1.length (wds (allS xs).1) ∧ Nw w w' := by
  have hln : xs.length = n := by have := hr0.len; rwa [bys_len] at this
  subst hln
  obtain ⟨okW, hW⟩ : ∃ okW : Nat → Prop, okW = fun k => ok k ∧ k < w.heap.size := ⟨_, rfl⟩
  have hr : Rd w okW 1 A xs.length (bys xs) := by rw [hW]; exact hr0.old (by omega)
  have hok : ∀ k, okW k → k < w.heap.size := by rw [hW]; exact fun k h => h.2
  clear hW hr0
  go_enter Try.func22, Try.ntmps22
  go_wp2
  go_loopw [0, 4] (fun u v wr => ∃ (j : Nat) (got : List Nat) (B : Option Addr) (d : Nat), AllInv xs j got ∧ u = .slice B (xs.length - j) d ∧ xs.length - j ≤ d ∧ Rd wr okW 1 B (xs.length - j) (bys (xs.drop j)) ∧
      wr.ownsRow w.heap.size 27 1 v got.length (wds got) ∧ Nw w wr)
    (fun u _ _ => lenIn u)
  case atStart => exact ⟨0, [], A, c, AllInv.start xs, rfl, hc, hr, World.ownsRow_nil w _ _ _, Kp.refl _ _⟩
  case round =>
    obtain ⟨j, got, B, d, hI, rfl, hd, hrd, hown, hnw⟩ := hrel
    have hjl := hI.1
    have hgl := hI.2.1
    have HOK := Lib.hid hok
    clear hok
    by_cases hlt : j < xs.length
    · have hlt' : (0 : Int) < ((xs.length - j : Nat) : Int) := by omega
      generalize hq : rdS (xs.drop j) 0 0 = r
      obtain ⟨x, k, e⟩ := r
      have HR := Lib.hid (fun W (h : Rd W okW 1 B (xs.length - j) (bys (xs.drop j))) => read_tup B (xs.length - j) d okW (xs.drop j) W h (by omega) x k e hq)
      by_cases he : e = 0
      · subst he
        have hk := rdS_back hq
        have hkl : k ≤ xs.length - j := by have := hk.2.1; simpa using this
        have hk1 := hk.1
        have hk0 : (0 : Int) ≤ (k : Int) := by omega
        have hk2 : (k : Int) ≤ ((xs.length - j : Nat) : Int) := by omega
        have hS := Lib.hid (hI.step hlt hq)
        clear hI hk hq
        have ei := Try.elU64
        go_wp2_with (first
          | (go_at_call 13; refine (HR.out _ hrd).mono ?_; rintro e w' ⟨rfl, rfl⟩)
          | (at_builtin; refine wpList_app1 wr _ _ rfl (.tmp 20) (.tmp 22) 34 27 rfl ei w.heap.size _ _ _ hown rfl 1 1 rfl rfl (by simp [Value.oneCell']) (by simp only [maxLen]; omega) (by omega) hnw.size ?_; intro v1 w1 hown1 hkp1 hat1))
        go_roundw
        case rel =>
          refine ⟨j + k, got ++ [x], _, _, hS.out, rfl_slice (by omega), ?_, ?_, ?_, hnw.row hown hkp1⟩
          · omega
          · have h1 := (hrd.cut1 hkl hd).row HOK.out hown hkp1
            rwa [← bys_drop, List.drop_drop, show xs.length - j - k = xs.length - (j + k) from by omega] at h1
          · simpa [wds, wv] using hown1
        case measure => simp [lenIn]; omega
      · have hB := Lib.hid (hI.bad hlt hq he)
        have he' : ((e : Int) != 0) = true := by rw [bne_iff_ne]; omega
        clear hI hq he
        go_wp2_with (go_at_call 13; refine (HR.out _ hrd).mono ?_; rintro e w' ⟨rfl, rfl⟩)
        go_ret2
        rw [hB.out]
        exact ⟨_, rfl, World.ownsRow_nil _ _ _ _, hnw⟩
    · have hD := Lib.hid (hI.done hlt)
      have hz : xs.length - j = 0 := by omega
      have hlt' : ¬ (0 : Int) < ((xs.length - j : Nat) : Int) := by omega
      clear hI
      go_wp2
      go_ret2
      rw [hD.out]
      exact ⟨_, rfl, hown, hnw⟩

end Go.Proofs.Ytcakjjbfhbldeaa
