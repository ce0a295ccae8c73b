/- Records: the program's cursor. -/
import Derived.Test.YtjgnapjhlhdgfaaRs
import Derived.Laws.Rows
import Derived.WalkLawsBesides
set_option linter.unusedVariables false
set_option linter.unusedSimpArgs false
namespace Go.Proofs.Ytjgnapjhlhdgfaa
open Go.RowKit

/-- Why a cursor gives up. -/
def brkV : Value := .iface 69 (.agg #[])
def brk : Ending := .panicked [{ v := brkV, recovered := false }]

/-- A cursor that stands in front of these bytes. -/
def Cur (w : World) (bc : Nat) (ok : Nat → Prop) (xs : List UInt8) : Prop :=
  ∃ (A : Option Addr) (c : Nat), w.heap[bc]? = some (.cells #[.slice A xs.length c] 73 (0, 0)) ∧ Rd w ok 1 A xs.length (bys xs) ∧ xs.length ≤ c ∧ xs.length ≤ 131072 ∧ ∀ k, ok k → k ≠ bc
section
variable {w w' : World} {bc : Nat} {ok : Nat → Prop} {xs : List UInt8}
theorem Cur.kp {S : Nat → Prop} (h : Cur w bc ok xs) (k : Kp S w w') (h1 : ¬ S bc) (h2 : ∀ g, ok g → ¬ S g) : Cur w' bc ok xs := by
  obtain ⟨A, c, hb, hr, hc, hn, hk⟩ := h
  exact ⟨A, c, (k.block bc (Array.getElem?_eq_some_iff.1 hb).1 h1).trans hb, hr.kp k h2, hc, hn, hk⟩
theorem Cur.nw (h : Cur w bc ok xs) (k : Nw w w') : Cur w' bc ok xs := h.kp k (fun e => e) fun _ _ e => e
theorem Cur.lt (h : Cur w bc ok xs) : bc < w.heap.size := by
  obtain ⟨A, c, hb, _⟩ := h
  exact (Array.getElem?_eq_some_iff.1 hb).1
theorem Cur.frz (h : Cur w bc ok xs) : w.frozen? ⟨bc, 0, none⟩ = false := by
  obtain ⟨A, c, hb, _⟩ := h
  simp [World.frozen?, hb]
/-- It goes on. -/
theorem Cur.set {A : Option Addr} {k c : Nat} (h : Cur w bc ok xs) (hk : k ≤ xs.length) (hr : Rd w ok 1 A (xs.length - k) (bys (xs.drop k))) (hc : xs.length - k ≤ c) :
    Cur (w.setCell ⟨bc, 0, none⟩ (.slice A (xs.length - k) c)) bc ok (xs.drop k) ∧ Kp (fun g => g = bc) w (w.setCell ⟨bc, 0, none⟩ (.slice A (xs.length - k) c)) := by
  obtain ⟨A0, c0, hb, hr0, hc0, hn0, hk0⟩ := h
  have hkp : Kp (fun g => g = bc) w (w.setCell ⟨bc, 0, none⟩ (.slice A (xs.length - k) c)) := (Kp.refl (fun g => g = bc) w).setCell (p := ⟨bc, 0, none⟩) (fun _ => rfl) _
  have hl : (xs.drop k).length = xs.length - k := List.length_drop
  refine ⟨⟨A, c, ?_, ?_, ?_, ?_, hk0⟩, hkp⟩
  · rw [hl]
    exact heap_setCell_same w bc 0 _ _ _ hb
  · rw [hl]
    exact hr.kp hkp hk0
  · rw [hl]; exact hc
  · rw [hl]; omega
end

theorem rdV_tup {r : Nat × Nat × Nat} {x k e : Nat} (h : r = (x, k, e)) : rdV r = .tuple #[.int .u64 (x : Int), .int .i64 (k : Int), .int .i64 (e : Int)] := by rw [h]; rfl

set_option maxRecDepth 100000 in
set_option maxHeartbeats 1600000 in
theorem curnum_ok (bc : Nat) (ok : Nat → Prop) (xs : List UInt8) (m k : Nat) (w : World) (hcur : Cur w bc ok xs) (h : rdN xs = some (m, k)) :
    Calls Try.prog 37 #[.pointer (some ⟨bc, 0, none⟩)] w fun e w' => e = .returned (.int .i64 (m : Int)) ∧ Cur w' bc ok (xs.drop k) ∧ Kp (fun g => g = bc) w w' := by
  obtain ⟨hrd, hk1, hk2, _, hm⟩ := rdN_some h
  have hcur' := hcur
  have hfz := hcur.frz
  obtain ⟨A, c, hb, hr, hc, hn, hk0⟩ := hcur
  have hcl : w.cell? ⟨bc, 0, none⟩ = some (.slice A xs.length c) := cell_of_row w bc 0 _ _ _ hb
  have HR := Lib.hid (read_any A xs.length c ok xs w hr (by omega))
  rw [rdV_tup hrd] at HR
  have hcut := hr.cut1 (k := k) (cap := c) hk2 hc
  rw [← bys_drop] at hcut
  have hkc : (k : Int) ≤ (xs.length : Int) := by omega
  have hmz : decide ((4611686018427387903 : Int) < (m : Int)) = false := by simp; omega
  by_cases hck : c = k
  · rw [if_pos hck] at hcut
    have hcs := hcur'.set (A := A) (c := 0) hk2 hcut (by omega)
    have e0 : xs.length - k = 0 := by omega
    rw [e0] at hcs
    have HCUT := Lib.hid hcs
    subst hck
    clear hcs e0
    clear hrd h hcur' hr hb hcut
    go_enter Try.func37, Try.ntmps37
    go_wp2_with (go_at_call 42; refine HR.out.mono ?_; rintro e w' ⟨rfl, rfl⟩)
    go_ret
    exact ⟨rfl, HCUT.out.1, HCUT.out.2⟩
  · rw [if_neg hck] at hcut
    have HCUT := Lib.hid (hcur'.set (A := A.map (fun a => a.add k)) (c := c - k) hk2 hcut (by omega))
    clear hrd h hcur' hr hb hcut
    go_enter Try.func37, Try.ntmps37
    go_wp2_with (go_at_call 42; refine HR.out.mono ?_; rintro e w' ⟨rfl, rfl⟩)
    go_ret
    exact ⟨rfl, HCUT.out.1, HCUT.out.2⟩

set_option maxRecDepth 100000 in
set_option maxHeartbeats 1600000 in
theorem curnum_bad (bc : Nat) (ok : Nat → Prop) (xs : List UInt8) (w : World) (hcur : Cur w bc ok xs) (h : rdN xs = none) :
    Calls Try.prog 37 #[.pointer (some ⟨bc, 0, none⟩)] w fun e w' => e = brk ∧ w = w' := by
  have hno := rdN_none h
  obtain ⟨A, c, hb, hr, hc, hn, hk0⟩ := hcur
  have hcl : w.cell? ⟨bc, 0, none⟩ = some (.slice A xs.length c) := cell_of_row w bc 0 _ _ _ hb
  have HR := Lib.hid (read_any A xs.length c ok xs w hr (by omega))
  obtain ⟨m, k, e, hrd⟩ : ∃ m k e, rdS xs 0 0 = (m, k, e) := ⟨_, _, _, rfl⟩
  rw [rdV_tup hrd] at HR
  rw [hrd] at hno
  simp only at hno
  have hno' : ((e : Int) != 0) = true ∨ (((e : Int) != 0) = false ∧ (4611686018427387903 : Int) < (m : Int)) := by
    by_cases he : e = 0
    · rcases hno with h1 | h1
      · exact absurd he h1
      · exact .inr ⟨by rw [he]; rfl, by omega⟩
    · exact .inl (by rw [bne_iff_ne]; omega)
  clear hrd h hr hb hno
  rcases hno' with he | ⟨he, hm⟩
  all_goals
    go_enter Try.func37, Try.ntmps37
    go_wp2_with (go_at_call 42; refine HR.out.mono ?_; rintro e w' ⟨rfl, rfl⟩)
    exact ⟨rfl, rfl, rfl⟩

end Go.Proofs.Ytjgnapjhlhdgfaa
