/- Frames: rows of records that are read; their frames. Plain, and memory. -/
import Derived.Test.YtjgnapjhlhdgfaaDoorDj
set_option linter.unusedVariables false
set_option linter.unusedSimpArgs false
namespace Go.Proofs.YtjgnapjhlhdgfaaDoor
open Go.RowKit

/-- A row of records that can be read: each record's lists, too. -/
structure RowR (w : World) (ok : Nat → Prop) (A : Option Addr) (N : Nat) (L : List RSt) (la : List Rc) : Prop where
  len : la.length = L.length
  row : Rd w ok 11 A N (rcs la)
  each : ∀ (i : Nat) (s : RSt) (a : Rc), L[i]? = some s → la[i]? = some a → ∃ S sc D dc, a = s.a.at_ S sc D dc ∧ Rd w ok 2 S s.a.sn (sps s.sp) ∧ Rd w ok 1 D s.a.dn (bys s.dt)
theorem RowR.kp {w w' : World} {ok X : Nat → Prop} {A : Option Addr} {N : Nat} {L : List RSt} {la : List Rc} (h : RowR w ok A N L la) (k : Kp X w w') (hX : ∀ g, ok g → ¬ X g) : RowR w' ok A N L la :=
  ⟨h.len, h.row.kp k hX, fun i s a h1 h2 => by
    obtain ⟨S, sc, D, dc, e, r1, r2⟩ := h.each i s a h1 h2
    exact ⟨S, sc, D, dc, e, r1.kp k hX, r2.kp k hX⟩⟩
theorem RowR.nw {w w' : World} {ok : Nat → Prop} {A : Option Addr} {N : Nat} {L : List RSt} {la : List Rc} (h : RowR w ok A N L la) (k : Nw w w') : RowR w' ok A N L la := h.kp k fun _ _ e => e
theorem RowR.lenN {w : World} {ok : Nat → Prop} {A : Option Addr} {N : Nat} {L : List RSt} {la : List Rc} (h : RowR w ok A N L la) : L.length = N := by
  have h1 := h.row.1
  rw [rcs_len, h.len] at h1
  omega
theorem Rws.rowR {lo hi : Nat} {W : World} {L : List RSt} {la : List Rc} {A : Option Addr} {N c : Nat} (h : Rws lo hi W L la (.slice A N c)) : RowR W (fun g => lo ≤ g ∧ g < hi) A N L la :=
  ⟨h.len, (own_slice h.rowN).more fun g hg => ⟨own_ge h.row hg, h.hv g hg⟩, fun i s a h1 h2 => by
    obtain ⟨S, sc, D, dc, e, hg⟩ := h.got i s a h1 h2
    exact ⟨S, sc, D, dc, e, (own_slice hg.os).more fun g hgg => ⟨own_ge hg.os hgg, hg.hs g hgg⟩, (own_slice hg.od).more fun g hgg => ⟨own_ge hg.od hgg, hg.hd g hgg⟩⟩⟩
/-- The lists of each are as long as their numbers say. -/
def Wf (L : List RSt) : Prop := ∀ s ∈ L, s.sp.length = s.a.sn ∧ s.dt.length = s.a.dn
theorem RowR.wf {w : World} {ok : Nat → Prop} {A : Option Addr} {N : Nat} {L : List RSt} {la : List Rc} (h : RowR w ok A N L la) : Wf L := fun s hs => by
  obtain ⟨i, hi, e⟩ := List.getElem_of_mem hs
  have hia : i < la.length := by rw [h.len]; exact hi
  obtain ⟨S, sc, D, dc, _, r1, r2⟩ := h.each i L[i] la[i] (List.getElem?_eq_getElem hi) (List.getElem?_eq_getElem hia)
  rw [e] at r1 r2
  have h1 := r1.1
  have h2 := r2.len
  rw [sps_len] at h1
  rw [bys_len] at h2
  omega
/-- The numbers alone: where the lists lie is forgotten. -/
def nz (s : RSt) : RSt := ⟨s.a.at_ none 0 none 0, s.sp, s.dt, []⟩
theorem RowR.nz {w : World} {ok : Nat → Prop} {A : Option Addr} {N : Nat} {L : List RSt} {la : List Rc} (h : RowR w ok A N L la) : RowR w ok A N (L.map nz) la :=
  ⟨by rw [h.len, List.length_map], h.row, fun i s a h1 h2 => by
    rw [List.getElem?_map] at h1
    cases hq : L[i]? with
    | none => rw [hq] at h1; cases h1
    | some t =>
      rw [hq] at h1
      simp only [Option.map_some, Option.some.injEq] at h1
      subst h1
      exact h.each i t a hq h2⟩
theorem RowR.take {w : World} {ok : Nat → Prop} {A : Option Addr} {N : Nat} {L : List RSt} {la : List Rc} (h : RowR w ok A N L la) {k : Nat} (hk : k ≤ N) : RowR w ok A k (L.take k) (la.take k) := by
  have hl := h.lenN
  refine ⟨by rw [List.length_take, List.length_take, h.len], ?_, fun i s a h1 h2 => ?_⟩
  · have := h.row.take hk
    have e : (rcs la).take (k * 11) = rcs (la.take k) := by
      have h3 : rcs la = rcs (la.take k) ++ rcs (la.drop k) := by rw [← rcs_app, List.take_append_drop]
      rw [h3, List.take_left' (by rw [rcs_len, List.length_take, h.len]; congr 1; omega)]
    rwa [e] at this
  · rw [List.getElem?_take] at h1 h2
    split at h1
    · rename_i hi
      rw [if_pos hi] at h2
      exact h.each i s a h1 h2
    · cases h1

theorem sameall_rows {w : World} {ok ok' : Nat → Prop} {A A' : Option Addr} {N : Nat} {L : List RSt} {la lb : List Rc} (c c' : Nat) (h1 : RowR w ok A N L la) (h2 : RowR w ok' A' N L lb) (hN : N ≤ 1000000000000) (hb : ∀ s ∈ L, s.a.sn ≤ 9223372036854775806 ∧ s.a.dn ≤ 9223372036854775806) :
    Calls Tryd.prog 16 #[.slice A N c, .slice A' N c'] w fun e w' => e = .returned (.bool true) ∧ Nw w w' :=
  sameall_any A A' N c c' ok ok' la lb w h1.row h2.row hN fun i a b ha hb' W' hW => by
    have hi : i < L.length := by rw [← h1.len]; exact (List.getElem?_eq_some_iff.1 ha).1
    have hL : L[i]? = some L[i] := List.getElem?_eq_getElem hi
    obtain ⟨S, sc, D, dc, rfl, r1, r2⟩ := h1.each i _ a hL ha
    obtain ⟨S', sc', D', dc', rfl, r3, r4⟩ := h2.each i _ b hL hb'
    have hbb := hb _ (List.getElem_mem hi)
    exact same_any (L[i].a.at_ S sc D dc) S' sc' D' dc' _ _ _ _ L[i].sp L[i].dt W' (r1.nw hW) (r2.nw hW) (r3.nw hW) (r4.nw hW) (by show L[i].a.sn ≤ _; omega) (by show L[i].a.dn ≤ _; omega)

/-! ### Frames -/
def okL (L : List RSt) : Bool := L.all fun s => okR s.a s.sp
def fr1 (s : RSt) : List UInt8 := f4 (prR s.a s.sp s.dt).length ++ f4 (Crc.sum (prR s.a s.sp s.dt)) ++ prR s.a s.sp s.dt
def frs (L : List RSt) : List UInt8 := L.flatMap fr1
def frO (L : List RSt) : List UInt8 := if okL L then frs L else []
theorem f4_len (n : Nat) : (f4 n).length = 4 := rfl
theorem fr1_len (s : RSt) : (fr1 s).length = 8 + (prR s.a s.sp s.dt).length := by simp only [fr1, List.length_append, f4_len]
theorem frs_nil : frs [] = [] := rfl
theorem frs_app (a b : List RSt) : frs (a ++ b) = frs a ++ frs b := by simp [frs]
theorem frs_cons (s : RSt) (l : List RSt) : frs (s :: l) = fr1 s ++ frs l := rfl
theorem take_snoc' {α : Type} {l : List α} {k : Nat} {s : α} (h : l[k]? = some s) : l.take (k + 1) = l.take k ++ [s] := by
  rw [List.take_add_one, h]
  rfl
theorem frs_snoc {L : List RSt} {k : Nat} {s : RSt} (h : L[k]? = some s) : frs (L.take (k + 1)) = frs (L.take k) ++ f4 (prR s.a s.sp s.dt).length ++ f4 (Crc.sum (prR s.a s.sp s.dt)) ++ prR s.a s.sp s.dt := by
  rw [take_snoc' h, frs_app]
  show frs (L.take k) ++ (fr1 s ++ []) = _
  rw [List.append_nil]
  simp only [fr1, List.append_assoc]
theorem okL_snoc {L : List RSt} {k : Nat} {s : RSt} (h : L[k]? = some s) (h0 : okL (L.take k) = true) (h1 : okR s.a s.sp = true) : okL (L.take (k + 1)) = true := by
  rw [take_snoc' h]
  unfold okL at *
  rw [List.all_append, h0]
  simp [h1]
theorem okL_bad {L : List RSt} {s : RSt} (h : s ∈ L) (h1 : okR s.a s.sp = false) : okL L = false := by
  unfold okL
  rw [List.all_eq_false]
  exact ⟨s, h, by simp [h1]⟩
theorem okL_mem {L : List RSt} {s : RSt} (h : okL L = true) (hs : s ∈ L) : okR s.a s.sp = true := List.all_eq_true.1 h s hs
theorem frs_len : ∀ {L : List RSt}, okL L = true → Wf L → (frs L).length ≤ L.length * 131080
  | [], _, _ => by simp [frs]
  | s :: l, h, hw => by
    have h1 := okL_mem h List.mem_cons_self
    have h2 : okL l = true := by
      unfold okL at *
      simp only [List.all_cons, Bool.and_eq_true] at h
      exact h.2
    have h3 := frs_len h2 fun t ht => hw t (List.mem_cons_of_mem _ ht)
    have h4 := hw s List.mem_cons_self
    have h5 := prR_small h1 h4.1 h4.2
    rw [frs_cons, List.length_append, fr1_len, List.length_cons]
    omega
theorem Wf.take {L : List RSt} (h : Wf L) (k : Nat) : Wf (L.take k) := fun s hs => h s (List.mem_of_mem_take hs)
theorem frs_take_len {L : List RSt} {k N : Nat} (h : okL (L.take k) = true) (hw : Wf L) (hl : L.length = N) (hN : N ≤ 10000000) : (frs (L.take k)).length ≤ 1310800000000 := by
  have h1 := frs_len h (hw.take k)
  have h2 : (L.take k).length ≤ 10000000 := by rw [List.length_take]; omega
  omega
/-- What a Frame answers. -/
def FrPost (w : World) (L : List RSt) (e : Ending) (w' : World) : Prop :=
  ∃ v, e = .returned (.tuple #[v, errR (okL L)]) ∧ w'.ownsRow w.heap.size 5 1 v (frO L).length (bys (frO L)) ∧ Nw w w'
theorem frpost_bad {w w' : World} {L : List RSt} {s : RSt} (h : s ∈ L) (h1 : okR s.a s.sp = false) (hn : Nw w w') : FrPost w L (.returned (.tuple #[.slice none 0 0, .int .i64 60])) w' := by
  have hb := okL_bad h h1
  refine ⟨.slice none 0 0, by rw [hb]; rfl, ?_, hn⟩
  unfold frO
  rw [hb]
  exact World.ownsRow_nil _ _ _ _
theorem frpost_ok {w w' : World} {L : List RSt} {v : Value} (h : okL L = true) (ho : w'.ownsRow w.heap.size 5 1 v (frs L).length (bys (frs L))) (hn : Nw w w') : FrPost w L (.returned (.tuple #[v, .int .i64 0])) w' := by
  refine ⟨v, by rw [h]; rfl, ?_, hn⟩
  unfold frO
  rw [if_pos h]
  exact ho

/-- What a Print of a record answers, right or not. -/
def PrPost (w : World) (P : List UInt8) (n : Int) (e : Ending) (w' : World) : Prop := ∃ v, e = .returned (.tuple #[v, .int .i64 n]) ∧ w'.ownsRow w.heap.size 5 1 v P.length (bys P) ∧ Nw w w'
theorem prpost_of {F : Nat} {a : Rc} {sp : List (Int × Int)} {dt : List UInt8} {w : World} (S : Option Addr) (sc : Nat) (D : Option Addr) (dc : Nat)
    (h : Calls Tryd.prog F #[(a.at_ S sc D dc).val] w fun e w' => ∃ v, e = .returned (.tuple #[v, errR (okR (a.at_ S sc D dc) sp)]) ∧ w'.ownsRow w.heap.size 5 1 v (prO (a.at_ S sc D dc) sp dt).length (bys (prO (a.at_ S sc D dc) sp dt)) ∧ Nw w w') :
    (okR a sp = true → Calls Tryd.prog F #[.agg (a.at_ S sc D dc).cells] w (PrPost w (prR a sp dt) 0)) ∧ (okR a sp = false → Calls Tryd.prog F #[.agg (a.at_ S sc D dc).cells] w (PrPost w [] 60)) := by
  constructor
  · intro hk
    refine Calls.mono h fun e w' hp => ?_
    obtain ⟨v, he, ho, hn⟩ := hp
    rw [okR_at, hk] at he
    have e2 : prO (a.at_ S sc D dc) sp dt = prR a sp dt := by rw [prO_at]; unfold prO; rw [if_pos hk]
    rw [e2] at ho
    exact ⟨v, he, ho, hn⟩
  · intro hk
    refine Calls.mono h fun e w' hp => ?_
    obtain ⟨v, he, ho, hn⟩ := hp
    rw [okR_at, hk] at he
    have e2 : prO (a.at_ S sc D dc) sp dt = [] := by rw [prO_at]; unfold prO; rw [if_neg (by rw [hk]; simp)]
    rw [e2] at ho
    exact ⟨v, he, ho, hn⟩
end Go.Proofs.YtjgnapjhlhdgfaaDoor
