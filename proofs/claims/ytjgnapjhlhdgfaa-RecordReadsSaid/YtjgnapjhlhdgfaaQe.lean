/- Records: the reference's Read: one field. -/
import Derived.Test.YtjgnapjhlhdgfaaQd
set_option linter.unusedVariables false
set_option linter.unusedSimpArgs false
namespace Go.Proofs.Ytjgnapjhlhdgfaa
open Go.RowKit

section
variable {rb : Nat} {A : Option Addr} {c : Nat} {ok : Nat → Prop} {xs : List UInt8} {p : Nat} {bad : Bool} {w : World}

theorem un_any (s : RSt) (f : Nat) (hf : f < 8) (h : Rdr w rb A c ok xs p bad) (hs : bad = false → s.r = xs.drop p) :
    Calls Try.prog 32 #[.pointer (some ⟨rb, 0, none⟩)] w fun e w' => ∃ (m : Nat) (p' : Nat) (bad' : Bool), e = .returned (.int .i64 (m : Int)) ∧ Rdr w' rb A c ok xs p' bad' ∧ Kp (fun g => g = rb) w w' ∧
      (bad' = false → bad = false ∧ rdF s f = some ⟨s.a.setN f m, s.sp, s.dt, xs.drop p'⟩) ∧ (bad' = true → bad = true ∨ rdF s f = none) := by
  cases bad with
  | true =>
    refine (refget_idle rb A c ok xs p w h).mono ?_
    rintro e w' ⟨rfl, rfl⟩
    exact ⟨0, p, true, rfl, h, Kp.refl _ _, (fun e => by cases e), fun _ => .inl rfl⟩
  | false =>
    have hs' := hs rfl
    refine (refget_any rb A c ok xs p w h).mono ?_
    rintro e w' ⟨⟨m, k, hrd, rfl, hR⟩ | ⟨hrd, rfl, j, hR⟩, hk⟩
    · refine ⟨m, p + k, false, rfl, hR, hk, fun _ => ⟨rfl, ?_⟩, fun e => by cases e⟩
      unfold rdF
      rw [hs', hrd]
      simp only
      rw [if_neg (by omega), if_neg (by omega), List.drop_drop]
    · refine ⟨0, j, true, rfl, hR, hk, (fun e => by cases e), fun _ => .inr ?_⟩
      unfold rdF
      rw [hs', hrd]

theorem ub_any (s : RSt) (h : Rdr w rb A c ok xs p bad) (hs : bad = false → s.r = xs.drop p) :
    Calls Try.prog 30 #[.pointer (some ⟨rb, 0, none⟩)] w fun e w' => ∃ (D : Option Addr) (m dc : Nat) (dt : List UInt8) (p' : Nat) (bad' : Bool), e = .returned (.slice D m dc) ∧ w'.ownsRow w.heap.size 5 1 (.slice D m dc) m (bys dt) ∧ m ≤ 131072 ∧
      Rdr w' rb A c ok xs p' bad' ∧ Kp (fun g => g = rb) w w' ∧ (bad' = false → bad = false ∧ rdF s 9 = some ⟨{ s.a with dn := m }, s.sp, dt, xs.drop p'⟩) ∧ (bad' = true → bad = true ∨ rdF s 9 = none) := by
  have hHN := h.hn
  cases bad with
  | true =>
    refine (refbytes_idle rb A c ok xs p w h).mono ?_
    rintro e w' ⟨rfl, hR, hk⟩
    exact ⟨none, 0, 0, [], p, true, rfl, World.ownsRow_nil _ _ _ _, by omega, hR, hk, (fun e => by cases e), fun _ => .inl rfl⟩
  | false =>
    have hs' := hs rfl
    refine (refbytes_any rb A c ok xs p w h).mono ?_
    rintro e w' ⟨⟨m, k, v, hrd, hle, rfl, ho, hR⟩ | ⟨hrd, rfl, j, hR⟩, hk⟩
    · obtain ⟨D, dc, rfl, _, _⟩ := own_read ho
      refine ⟨D, m, dc, _, p + k + m, false, rfl, ho, ?_, hR, hk, fun _ => ⟨rfl, ?_⟩, fun e => by cases e⟩
      · simp only [List.length_drop] at hle
        omega
      · unfold rdF
        rw [hs', hrd]
        simp only
        rw [if_pos trivial, if_pos hle, List.drop_drop, List.drop_drop]
    · refine ⟨none, 0, 0, [], j, true, rfl, World.ownsRow_nil _ _ _ _, by omega, hR, hk, (fun e => by cases e), fun _ => .inr ?_⟩
      unfold rdF
      rw [hs']
      cases hq : rdN (xs.drop p) with
      | none => rfl
      | some mk =>
        obtain ⟨m, k⟩ := mk
        have := hrd m k hq
        simp only
        rw [if_pos trivial, if_neg (by omega)]

theorem us_any (s : RSt) (h : Rdr w rb A c ok xs p bad) (hs : bad = false → s.r = xs.drop p) (hok : ∀ g, ok g → g < w.heap.size) :
    Calls Try.prog 31 #[.pointer (some ⟨rb, 0, none⟩)] w fun e w' => ∃ (S : Option Addr) (m sc : Nat) (sp : List (Int × Int)) (p' : Nat) (bad' : Bool), e = .returned (.slice S m sc) ∧ w'.ownsRow w.heap.size 47 2 (.slice S m sc) m (sps sp) ∧ m ≤ 131080 ∧
      Rdr w' rb A c ok xs p' bad' ∧ Kp (fun g => g = rb) w w' ∧ (bad' = false → bad = false ∧ rdF s 8 = some ⟨{ s.a with sn := m }, sp, s.dt, xs.drop p'⟩) ∧
      (bad' = true → bad = true ∨ rdF s 8 = none ∨ ∃ s1, rdF s 8 = some s1 ∧ s1.a.k = s.a.k ∧ ∃ x ∈ s1.sp, (4611686018427387903 : Int) < x.2) := by
  have hHN := h.hn
  cases bad with
  | true =>
    refine (refspans_idle rb A c ok xs p w h).mono ?_
    rintro e w' ⟨rfl, rfl⟩
    exact ⟨none, 0, 0, [], p, true, rfl, World.ownsRow_nil _ _ _ _, by omega, h, Kp.refl _ _, (fun e => by cases e), fun _ => .inl rfl⟩
  | false =>
    have hs' := hs rfl
    refine (refspans_any rb A c ok xs p w h hok).mono ?_
    rintro e w' ⟨⟨m, k, l, p', v, hrd, hP, rfl, ho, hl, hR⟩ | ⟨hrd, l, v, j, rfl, ho, hl, hR⟩, hk⟩
    · obtain ⟨S, sc, rfl, _, _⟩ := own_read ho
      refine ⟨S, l.length, sc, l, p', false, rfl, ho, hl, hR, hk, fun _ => ⟨rfl, ?_⟩, fun e => by cases e⟩
      have hm := rdP_min _ hP
      have hml := rdP_len _ hP
      unfold rdF
      rw [hs', hrd]
      simp only
      rw [if_neg (by omega), if_pos trivial, if_pos hm, hP, hml]
    · obtain ⟨S, sc, rfl, _, _⟩ := own_read ho
      refine ⟨S, l.length, sc, l, j, true, rfl, ho, hl, hR, hk, (fun e => by cases e), fun _ => .inr ?_⟩
      cases hq : rdN (xs.drop p) with
      | none =>
        refine .inl ?_
        unfold rdF
        rw [hs', hq]
      | some mk =>
        obtain ⟨m, k⟩ := mk
        have hb := hrd m k hq
        by_cases hle : m ≤ ((xs.drop p).drop k).length
        · cases hP : rdP m ((xs.drop p).drop k) with
          | none =>
            refine .inl ?_
            unfold rdF
            rw [hs', hq]
            simp only
            rw [if_neg (by omega), if_pos trivial, if_pos hle, hP]
          | some lr =>
            obtain ⟨l', r'⟩ := lr
            refine .inr ⟨⟨{ s.a with sn := m }, l', s.dt, r'⟩, ?_, rfl, hb l' r' hP⟩
            unfold rdF
            rw [hs', hq]
            simp only
            rw [if_neg (by omega), if_pos trivial, if_pos hle, hP]
        · refine .inl ?_
          unfold rdF
          rw [hs', hq]
          simp only
          rw [if_neg (by omega), if_pos trivial, if_neg hle]
end

end Go.Proofs.Ytjgnapjhlhdgfaa
