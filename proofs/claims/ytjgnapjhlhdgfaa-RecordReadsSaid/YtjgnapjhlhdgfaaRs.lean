/- Records: what bytes are read as. Plain. -/
import Derived.Test.YtjgnapjhlhdgfaaRi
set_option linter.unusedVariables false
set_option linter.unusedSimpArgs false
namespace Go.Proofs.Ytjgnapjhlhdgfaa
open Go.RowKit

/-- A number at the head, and how many bytes it has. -/
def rdN (xs : List UInt8) : Option (Nat × Nat) :=
  if (rdS xs 0 0).2.2 = 0 ∧ (rdS xs 0 0).1 ≤ 4611686018427387903 then some ((rdS xs 0 0).1, (rdS xs 0 0).2.1) else none
theorem rdN_some {xs : List UInt8} {n k : Nat} (h : rdN xs = some (n, k)) : rdS xs 0 0 = (n, k, 0) ∧ 1 ≤ k ∧ k ≤ xs.length ∧ xs.take k = enc n ∧ n ≤ 4611686018427387903 := by
  unfold rdN at h
  split at h
  · rename_i hc
    simp only [Option.some.injEq, Prod.mk.injEq] at h
    have e : rdS xs 0 0 = (n, k, 0) := by
      obtain ⟨x, y, z, hx⟩ : ∃ x y z, rdS xs 0 0 = (x, y, z) := ⟨_, _, _, rfl⟩
      rw [hx] at h hc ⊢
      simp only at h hc
      rw [h.1, h.2, hc.1]
    have hb := rdS_back e
    exact ⟨e, hb.1, hb.2.1, hb.2.2.1, by rw [← h.1]; exact hc.2⟩
  · cases h
theorem rdN_enc {n : Nat} (t : List UInt8) (h : n ≤ 4611686018427387903) : rdN (enc n ++ t) = some (n, siz n) := by
  have e := rdS_enc t (n := n) (by omega)
  unfold rdN
  rw [e, if_pos ⟨rfl, h⟩]
theorem rdN_none {xs : List UInt8} (h : rdN xs = none) : (rdS xs 0 0).2.2 ≠ 0 ∨ 4611686018427387903 < (rdS xs 0 0).1 := by
  unfold rdN at h
  split at h
  · cases h
  · rename_i hc
    by_cases h1 : (rdS xs 0 0).2.2 = 0
    · exact .inr (by have : ¬ _ := fun h2 => hc ⟨h1, h2⟩; omega)
    · exact .inl h1

/-- So many spans. -/
def rdP : Nat → List UInt8 → Option (List (Int × Int) × List UInt8)
  | 0, xs => some ([], xs)
  | n + 1, xs =>
    match rdN xs with
    | none => none
    | some (f, k) =>
      match rdN (xs.drop k) with
      | none => none
      | some (m, k2) =>
        match rdP n ((xs.drop k).drop k2) with
        | none => none
        | some (l, r) => some (((f : Int), (f : Int) + (m : Int)) :: l, r)

/-- A record, its lists, and the bytes that are left. -/
structure RSt where
  a : Rc
  sp : List (Int × Int)
  dt : List UInt8
  r : List UInt8
def Rc.setN (a : Rc) (i : Nat) (x : Int) : Rc :=
  match i with
  | 0 => { a with o := x } | 1 => { a with n := x } | 2 => { a with p := x } | 3 => { a with v := x } | 4 => { a with f := x } | 5 => { a with r := x } | 6 => { a with z := x } | 7 => { a with h := x } | _ => a
def rdF (s : RSt) (f : Nat) : Option RSt :=
  match rdN s.r with
  | none => none
  | some (n, k) =>
    if f = 9 then (if n ≤ (s.r.drop k).length then some ⟨{ s.a with dn := n }, s.sp, (s.r.drop k).take n, (s.r.drop k).drop n⟩ else none)
    else if f = 8 then
      (if n ≤ (s.r.drop k).length then
        match rdP n (s.r.drop k) with
        | none => none
        | some (l, r) => some ⟨{ s.a with sn := n }, l, s.dt, r⟩
      else none)
    else some ⟨s.a.setN f n, s.sp, s.dt, s.r.drop k⟩
def rdL : List Nat → RSt → Option RSt
  | [], s => some s
  | f :: l, s => (rdF s f).bind (rdL l)
def zeroR : Rc := ⟨0, 0, 0, 0, 0, 0, 0, 0, 0, none, 0, 0, none, 0, 0⟩
def rd0 (b : UInt8) (r : List UInt8) : RSt := ⟨{ zeroR with k := (b.toNat : Int) }, [], [], r⟩
def rdR (xs : List UInt8) : Option RSt :=
  match xs with
  | [] => none
  | b :: r =>
    match rdL (fds (b.toNat : Int)) (rd0 b r) with
    | none => none
    | some s => if s.r = [] ∧ okR s.a s.sp = true then some s else none
/-- What Read answers: the record and its error's number. -/
def rdO (xs : List UInt8) : RSt × Int :=
  if xs.length > 131072 then (⟨zeroR, [], [], []⟩, 2) else
    match rdR xs with
    | none => (⟨zeroR, [], [], []⟩, 61)
    | some s => (s, 0)

end Go.Proofs.Ytjgnapjhlhdgfaa
