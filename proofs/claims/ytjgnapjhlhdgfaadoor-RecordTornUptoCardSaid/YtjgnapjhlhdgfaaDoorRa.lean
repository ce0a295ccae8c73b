/- Regions that draw their order and whose callees make memory, but turn none of what was there: one walk in the order of the text. Records as values; the document's get, has, fields. -/
import Derived.Test.YtjgnapjhlhdgfaaDoorWd
import Derived.Deep.QuietTactic
import Derived.BigQuiet
import Derived.Test.YtjgnapjhlhdgfaaDoorRows
import Derived.Test.YtjgnapjhlhdgfaaDoorOw
set_option linter.unusedVariables false
set_option linter.unusedSimpArgs false
namespace Go.Proofs.YtjgnapjhlhdgfaaDoor
open Go.RowKit

/-- The worlds in which nothing that was there has turned. -/
def NwS (w : World) : Type := { w' : World // Nw w w' }
def NwS.w {w : World} (s : NwS w) : World := s.1
theorem NwS.nw {w : World} (s : NwS w) : Nw w s.w := s.2
instance NwS.inst (w : World) : Nonempty (NwS w) := ⟨⟨w, Kp.refl _ w⟩⟩
theorem NwS.cell {w : World} {p : Addr} {v : Value} (h : w.cell? p = some v) : ∀ s : NwS w, s.w.cell? p = some v := fun s => (Kp.cell s.nw (World.block_lt_of_cell? _ _ h) fun e => e).trans h

theorem wp_region_nw {P : Program} {id : Nat} {Q : Exit → Act → World → Prop} {a : Act} {w : World} {l : List Oper} (hm : P.follows .mixedOrders = true) (hB : Region.lexB .any l.toArray = true)
    (h : wpQuiet P l.toArray (fun w' => ∃ s : NwS w, w' = s.w) (fun a' => ∀ w', Nw w w' → Q .normal a' w') l a) : (Code.region id l.toArray true).wp P Q a w := by
  refine wp_region_quiet (C := fun w' => ∃ s : NwS w, w' = s.w) hm hB ⟨⟨w.drew, (Kp.refl _ w).drew⟩, rfl⟩ ?_
  have e : (fun a' => ∀ w', (∃ s : NwS w, w' = s.w) → Q .normal a' w') = (fun a' => ∀ w', Nw w w' → Q .normal a' w') := by
    funext a'
    apply propext
    exact ⟨fun H w' hw => H w' ⟨⟨w', hw⟩, rfl⟩, fun H w' ⟨s, hs⟩ => by subst hs; exact H _ s.nw⟩
  rw [e]
  exact h

/-- A callee's contract, met in a world of the class. -/
theorem calls_nw {P : Program} {f : FuncId} {args : Array Value} {w : World} {s : NwS w} {v : Value}
    (h : Calls P f args s.w fun e w' => e = .returned v ∧ Nw s.w w') : Calls P f args s.w fun e w'' => e = .returned v ∧ ∃ s' : NwS w, w'' = s'.w :=
  h.mono fun e w'' ⟨he, hn⟩ => ⟨he, ⟨⟨w'', s.nw.nw hn⟩, rfl⟩⟩

end Go.Proofs.YtjgnapjhlhdgfaaDoor

namespace Go.Proofs.YtjgnapjhlhdgfaaDoor
open Go.RowKit

/-- A record as a value: its numbers, and where its lists lie. -/
structure Rc where
  (k o n p v f r z h : Int)
  S : Option Addr
  (sn sc : Nat)
  D : Option Addr
  (dn dc : Nat)
def Rc.cells (a : Rc) : Array Value :=
  #[.int .i64 a.k, .int .i64 a.o, .int .i64 a.n, .int .i64 a.p, .int .i64 a.v, .int .i64 a.f, .int .i64 a.r, .int .i64 a.z, .int .i64 a.h, .slice a.S a.sn a.sc, .slice a.D a.dn a.dc]
def Rc.val (a : Rc) : Value := .agg a.cells
def Rc.num (a : Rc) : Nat → Int
  | 0 => a.o | 1 => a.n | 2 => a.p | 3 => a.v | 4 => a.f | 5 => a.r | 6 => a.z | _ => a.h
/-- The letters of the fields. -/
def lett : List UInt8 := [79, 78, 80, 86, 70, 82, 90, 72, 83, 68]
def let_ (i : Nat) : UInt8 := lett.getD i 0

set_option maxRecDepth 100000 in
set_option maxHeartbeats 1600000 in
theorem get_any (a : Rc) (i : Nat) (hi : i < 8) (w : World) :
    Calls Tryd.prog 52 #[a.val, bv (let_ i)] w fun e w' => e = .returned (.int .i64 (a.num i)) ∧ Nw w w' := by
  have : i = 0 ∨ i = 1 ∨ i = 2 ∨ i = 3 ∨ i = 4 ∨ i = 5 ∨ i = 6 ∨ i = 7 := by omega
  have H : ∀ c : Int, ∀ x : Value, (Calls Tryd.prog 52 #[.agg #[.int .i64 a.k, .int .i64 a.o, .int .i64 a.n, .int .i64 a.p, .int .i64 a.v, .int .i64 a.f, .int .i64 a.r, .int .i64 a.z, .int .i64 a.h, .slice a.S a.sn a.sc, .slice a.D a.dn a.dc], .int .u8 c] w fun e w' => e = .returned x ∧ Nw w w') → Calls Tryd.prog 52 #[a.val, .int .u8 c] w fun e w' => e = .returned x ∧ Nw w w' := fun _ _ h => h
  rcases this with rfl | rfl | rfl | rfl | rfl | rfl | rfl | rfl
  all_goals
    refine H _ _ ?_
    clear H
    go_enter Tryd.func52, Tryd.ntmps52
    go_wp2
    go_ret
    exact ⟨rfl, (Kp.refl _ _).alloc _⟩

theorem sb_size (l : List UInt8) : (sb l).size = l.length := by simp [sb, ByteArray.size]
theorem sb_get (l : List UInt8) (k : Nat) (h : k < (sb l).size) (h' : k < l.length) : (sb l)[k] = l[k] := rfl

/-- Is the letter in the word? -/
theorem has_any (s : List UInt8) (c : UInt8) (w : World) (hs : s.length ≤ 100) :
    Calls Tryd.prog 74 #[.string (sb s), bv c] w fun e w' => e = .returned (.bool (s.contains c)) ∧ Nw w w' := by
  have hsz : (sb s).size = s.length := sb_size s
  have hg0 : ∀ S : ByteArray, sb s = S → ∀ (k : Nat) (h : k < S.size) (h' : k < s.length), S[k]'h = s[k]'h' := by
    intro S e
    subst e
    intros
    rfl
  have HG := Lib.hid hg0
  clear hg0
  show Calls Tryd.prog 74 #[.string (sb s), .int .u8 (c.toNat : Int)] w _
  generalize hq : s.contains c = q at *
  have HQ := Lib.hid hq
  generalize hS : sb s = S at *
  have HS := Lib.hid hS
  clear hq hS
  go_enter Tryd.func74, Tryd.ntmps74
  go_wp2
  go_loopw [5] (fun i wr => ∃ k : Nat, k ≤ s.length ∧ i = .int .i64 k ∧ q = (s.drop k).contains c ∧ Nw w wr) (fun i _ => s.length - (intOf i).toNat)
  case atStart => exact ⟨0, by omega, rfl, by rw [List.drop_zero]; exact HQ.out.symm, Kp.refl _ _⟩
  case round =>
    obtain ⟨k, hk, rfl, hsc, hnw⟩ := hrel
    by_cases hlt : k < s.length
    · have h1 : (k : Int) < (S.size : Int) := by omega
      have h2 : (0 : Int) ≤ (k : Int) := by omega
      have h3 : k < S.size := by omega
      have hg := HG.out S rfl k h3 hlt
      rw [List.drop_eq_getElem_cons hlt, List.contains_cons] at hsc
      by_cases he : c = s[k]
      · have hd : ((S[k].toNat : Int) == (c.toNat : Int)) = true := by rw [hg, he]; simp
        rw [he] at hsc
        simp only [BEq.rfl, Bool.true_or] at hsc
        subst hsc
        clear hg he
        go_wp2
        go_ret
        exact ⟨rfl, hnw⟩
      · have hd : ((S[k].toNat : Int) == (c.toNat : Int)) = false := by
          rw [hg]
          simp only [beq_eq_false_iff_ne, ne_eq]
          intro e
          exact he (UInt8.toNat.inj (by omega))
        have he' : (c == s[k]) = false := by simpa using he
        rw [he', Bool.false_or] at hsc
        have HSC := Lib.hid hsc
        clear hsc hg he he'
        go_wp2
        go_roundw
        case rel => exact ⟨k + 1, by omega, by go_num, HSC.out, hnw⟩
        case measure => simp [intOf]; omega
    · have h1 : ¬ (k : Int) < (S.size : Int) := by omega
      rw [List.drop_of_length_le (by omega)] at hsc
      simp only [List.contains_nil] at hsc
      subst hsc
      go_wp2
      go_ret
      exact ⟨rfl, hnw⟩

/-- The fields of a kind, by their numbers. -/
def fds (k : Int) : List Nat :=
  if k = 1 then [0, 6] else if k = 2 then [6] else if k = 3 then [0, 1, 2, 3, 5, 6, 9] else if k = 4 ∨ k = 8 then [0, 1, 7] else if k = 5 ∨ k = 7 ∨ k = 9 ∨ k = 10 then [0, 1]
  else if k = 6 then [0, 1, 3, 4, 5, 6, 9] else if k = 11 then [6, 8] else if k = 12 then [0, 1, 3, 5, 6] else []
set_option maxRecDepth 100000 in
set_option maxHeartbeats 1600000 in
theorem rfields_any (k : Int) (w : World) :
    Calls Tryd.prog 50 #[.int .i64 k] w fun e w' => e = .returned (.string (sb ((fds k).map let_))) ∧ Nw w w' := by
  have hk : k = 1 ∨ k = 2 ∨ k = 3 ∨ k = 4 ∨ k = 5 ∨ k = 6 ∨ k = 7 ∨ k = 8 ∨ k = 9 ∨ k = 10 ∨ k = 11 ∨ k = 12 ∨ (k ≠ 1 ∧ k ≠ 2 ∧ k ≠ 3 ∧ k ≠ 4 ∧ k ≠ 5 ∧ k ≠ 6 ∧ k ≠ 7 ∧ k ≠ 8 ∧ k ≠ 9 ∧ k ≠ 10 ∧ k ≠ 11 ∧ k ≠ 12) := by omega
  rcases hk with rfl | rfl | rfl | rfl | rfl | rfl | rfl | rfl | rfl | rfl | rfl | rfl | ⟨h1, h2, h3, h4, h5, h6, h7, h8, h9, h10, h11, h12⟩
  all_goals
    go_enter Tryd.func50, Tryd.ntmps50
    go_wp2
    go_ret
    refine ⟨?_, Kp.refl _ _⟩
  rotate_right
  · have : fds k = [] := by simp [fds, *]
    rw [this]
    rfl
  all_goals rfl

end Go.Proofs.YtjgnapjhlhdgfaaDoor
