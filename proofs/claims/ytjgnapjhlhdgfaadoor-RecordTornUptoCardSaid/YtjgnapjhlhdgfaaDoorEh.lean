/- Frames: what the law RecordTorn needs: the ends of frames, one record out of a row. -/
import Derived.Test.YtjgnapjhlhdgfaaDoorEe
set_option linter.unusedVariables false
set_option linter.unusedSimpArgs false
namespace Go.Proofs.YtjgnapjhlhdgfaaDoor
open Go.RowKit

/-- The ends of the first k frames. -/
def ens (L : List RSt) (k : Nat) : List Value := (List.range k).map fun i => .int .i64 ((en L (i + 1) : Nat) : Int)
theorem ens_len (L : List RSt) (k : Nat) : (ens L k).length = k := by simp [ens]
theorem ens_at (L : List RSt) {k i : Nat} (h : i < k) : (ens L k)[i]? = some (.int .i64 ((en L (i + 1) : Nat) : Int)) := by simp [ens, h]
theorem ens_succ (L : List RSt) (k : Nat) : ens L (k + 1) = ens L k ++ [.int .i64 ((en L (k + 1) : Nat) : Int)] := by
  unfold ens
  rw [List.range_succ, List.map_append]
  rfl
theorem Rd.end_ {w : World} {ok : Nat → Prop} {A : Option Addr} {n i : Nat} {L : List RSt} (h : Rd w ok 1 A n (ens L n)) (hi : i < n) : ∃ ad, A = some ad ∧ w.cell? (ad.add i) = some (.int .i64 ((en L (i + 1) : Nat) : Int)) := by
  obtain ⟨ad, u, hA, _, hx, hc⟩ := h.at_ hi
  rw [ens_at L hi] at hx
  injection hx with hx
  exact ⟨ad, hA, by rw [hc, hx]⟩

set_option maxRecDepth 100000 in
theorem start_any (A : Option Addr) (n c : Nat) (ok : Nat → Prop) (L : List RSt) (k : Nat) (w : World) (hr : Rd w ok 1 A n (ens L n)) (hk : k ≤ n) (hn : n ≤ 9000000000000000000) :
    Calls Tryd.prog 21 #[.slice A n c, .int .i64 (k : Int)] w fun e w' => e = .returned (.int .i64 ((en L k : Nat) : Int)) ∧ w = w' := by
  cases k with
  | zero =>
    have h0 : (((0 : Nat) : Int) == 0) = true := rfl
    have hz : ((en L 0 : Nat) : Int) = 0 := rfl
    rw [hz]
    clear hz
    go_enter Tryd.func21, Tryd.ntmps21
    go_wp2_with fail
    go_ret
    exact ⟨rfl, rfl⟩
  | succ j =>
    obtain ⟨ad, rfl, hc⟩ := hr.end_ (i := j) (by omega)
    have h0 : (((j + 1 : Nat) : Int) == 0) = false := by rw [beq_eq_false_iff_ne]; omega
    have h0' : ((j : Int) + 1 == 0) = false := by rw [beq_eq_false_iff_ne]; omega
    have h1 : (0 : Int) ≤ (j : Int) := by omega
    have h2 : (j : Int) < (n : Int) := by omega
    generalize en L (j + 1) = E at *
    clear hr
    go_enter Tryd.func21, Tryd.ntmps21
    go_wp2_with fail
    go_ret
    exact ⟨rfl, rfl⟩

section
variable {P : Program} {ops : Array Oper} {rest : List Oper} {o : Oper} {a : Act} {w : World} {Q : Exit → Act → World → Prop}
/-- 'x[l:h]' of elements of s cells, l short of the cap. -/
theorem wpList_cutS (s : Nat) (hgd : o.guard = none) (x lo hi : Operand) (t e : TypeId) (ho : o.op = .slice t x (some lo) (some hi) none) (ht : P.underlying t = some (.slice e)) (hz : (P.info? e).map (·.size) = some s)
    (A : Option Addr) (n c l h : Nat) (L H : Int) (hx : a.eval x = .slice A n c) (hl : a.eval lo = .int .i64 L) (hh : a.eval hi = .int .i64 H) (eL : L = l) (eH : H = h) (h1 : l ≤ h) (h2 : h ≤ c) (h3 : l < c)
    (k : wpList P ops Q rest (a.put o.dst (.slice (A.map (·.add (l * s))) (h - l) (c - l))) w) : wpList P ops Q (o :: rest) a w := by
  subst eL eH
  have hel : P.elem t = e := by simp [Program.elem, ht]
  refine wpList_plain hgd fun K hK => ?_
  have hsz : (sizeOf (P.elem t)).run P w = .ok s w := by
    rw [hel]
    cases hq : P.info? e with
    | none => simp [hq] at hz
    | some i =>
      have hs : i.size = s := by simpa [hq] using hz
      simp [sizeOf, typeInfo, hq, hs]
  have hr : (Instr.sliceAt t (.slice A n c) (some (.int .i64 l)) (some (.int .i64 h)) none).run P w = .ok (.slice (A.map (·.add (l * s))) (h - l) (c - l)) w := by
    have h0 := run_sliceAt_slice (P := P) (w := w) t (.slice A n c) (some (.int .i64 l)) (some (.int .i64 h)) none (by rw [hel]; exact ht)
    have h4 := run_slice_lh (P := P) (w := w) t A n c (by rw [hel]; exact ht) .i64 .i64 (l : Int) (h : Int) (by omega) (by omega) (by omega)
    rw [h0, h4, hsz]
    simp only [Result.andThen, sliced, Int.toNat_natCast]
    rw [if_neg (by omega)]
  unfold Oper.wp execOp
  simp only [ho, hx, hl, hh, Option.map_some, Option.map_none, Sem.run_bind, Sem.run_pure, Result.andThen_ok, hr]
  exact hK _ _ k
end
/-- One record out of a row. -/
theorem RowR.one {w : World} {ok : Nat → Prop} {A : Option Addr} {N : Nat} {L : List RSt} {la : List Rc} (h : RowR w ok A N L la) {k : Nat} {s : RSt} {a : Rc} (hs : L[k]? = some s) (ha : la[k]? = some a) : RowR w ok (A.map (·.add (k * 11))) 1 [s] [a] := by
  have hk : k < la.length := (List.getElem?_eq_some_iff.1 ha).1
  have hka : la[k] = a := (List.getElem?_eq_some_iff.1 ha).2
  have hN : L.length = N := h.lenN
  obtain ⟨ad, rfl, ho, hc⟩ := h.row.2 (by rw [← hN, ← h.len]; omega)
  refine ⟨rfl, ⟨by rw [rcs_len]; rfl, fun _ => ⟨ad.add (k * 11), rfl, by rw [block_of_add]; exact ho, fun j u hu => ?_⟩⟩, fun i t b h1 h2 => ?_⟩
  · have e : rcs [a] = a.cells.toList := by simp [rcs]
    rw [e] at hu
    have := rcs_at (l := la) (i := k) hk j u (by rw [hka]; simpa using hu)
    rw [add_of_add]
    exact hc _ _ this
  · cases i with
    | zero =>
      simp only [List.getElem?_cons_zero, Option.some.injEq] at h1 h2
      subst h1 h2
      exact h.each k _ _ hs ha
    | succ i => simp at h1
theorem frO_one {s : RSt} (h : okR s.a s.sp = true) : frO [s] = fr1 s := by
  unfold frO okL
  simp [h, frs]
theorem okL_one (s : RSt) : okL [s] = okR s.a s.sp := by unfold okL; simp
theorem frs_succ {L : List RSt} {k : Nat} {s : RSt} (h : L[k]? = some s) : frs (L.take (k + 1)) = frs (L.take k) ++ fr1 s := by
  rw [take_snoc' h, frs_app]
  show _ ++ (fr1 s ++ []) = _
  rw [List.append_nil]
theorem okL_split {L : List RSt} {k : Nat} {s : RSt} (h : L[k]? = some s) (h0 : okL (L.take k) = true) (h1 : okR s.a s.sp = true) : okL (L.take (k + 1)) = true := okL_snoc h h0 h1
theorem Rws.rowT {lo hi : Nat} {W : World} {L : List RSt} {la : List Rc} {A : Option Addr} {N c : Nat} (h : Rws lo hi W L la (.slice A N c)) {k : Nat} (hk : k ≤ N) : RowR W (fun g => lo ≤ g ∧ g < hi) A k (L.take k) (la.take k) := h.rowR.take hk
theorem map_take' {α β : Type} (f : α → β) (l : List α) (k : Nat) : (l.map f).take k = (l.take k).map f := by rw [List.map_take]
theorem app_take {α : Type} {a b : List α} {n : Nat} (h : a.length = n) : (a ++ b).take n = a := List.take_left' h
theorem nz_small {L : List RSt} (h : ∀ s ∈ L, s.a.sn ≤ 9223372036854775806 ∧ s.a.dn ≤ 9223372036854775806) : ∀ s ∈ L.map nz, s.a.sn ≤ 9223372036854775806 ∧ s.a.dn ≤ 9223372036854775806 := fun s hs => by
  obtain ⟨t, ht, rfl⟩ := List.mem_map.1 hs
  exact h t ht
theorem scpostN_of {w w' : World} {xs : List UInt8} {L : List RSt} {N M : Nat} {e : Ending} (hs : scn xs = (L, M)) (hN : L.length = N) (h : ScPost w xs e w') : ScPostN w L N M e w' := by
  have := scpostN h
  rw [hs] at this
  rw [hN] at this
  exact this
end Go.Proofs.YtjgnapjhlhdgfaaDoor

namespace Go.Proofs.YtjgnapjhlhdgfaaDoor
open Go.RowKit
theorem Tryd.elInt : Elem Tryd.prog 43 3 (.int .i64 0) 1 8 := ⟨Tryd.underlying43, by kernel_rfl, rfl, by omega⟩
/-- What stands behind the frames' first loop: their bytes and their ends. -/
structure TornW (w : World) (base : Nat) (L : List RSt) (N T : Nat) (A12 : Option Addr) (c12 : Nat) (A13 : Option Addr) (c13 : Nat) (W : World) : Prop where
  n : Nw w W
  whole : W.ownsRow base 5 1 (.slice A12 T c12) T (bys (frs L))
  ends : W.ownsRow base 3 1 (.slice A13 N c13) N (ens L N)
theorem TornW.nw {w : World} {base : Nat} {L : List RSt} {N T : Nat} {A12 : Option Addr} {c12 : Nat} {A13 : Option Addr} {c13 : Nat} {W W' : World} (h : TornW w base L N T A12 c12 A13 c13 W) (k : Nw W W') : TornW w base L N T A12 c12 A13 c13 W' :=
  ⟨h.n.nw k, own_nw h.whole k, own_nw h.ends k⟩
theorem frpost_one_ok {w w' : World} {s : RSt} {e : Ending} (h : FrPost w [s] e w') (hok : okR s.a s.sp = true) : ∃ v, e = .returned (.tuple #[v, .int .i64 0]) ∧ w'.ownsRow w.heap.size 5 1 v (fr1 s).length (bys (fr1 s)) ∧ Nw w w' := by
  obtain ⟨v, he, ho, hn⟩ := h
  rw [okL_one, hok] at he
  rw [frO_one hok] at ho
  exact ⟨v, he, ho, hn⟩
theorem frpost_one_bad {w w' : World} {s : RSt} {e : Ending} (h : FrPost w [s] e w') (hok : okR s.a s.sp = false) : ∃ v, e = .returned (.tuple #[v, .int .i64 60]) ∧ Nw w w' := by
  obtain ⟨v, he, ho, hn⟩ := h
  rw [okL_one, hok] at he
  exact ⟨v, he, hn⟩
theorem frpost_all {w w' : World} {L : List RSt} {e : Ending} (h : FrPost w L e w') (hok : okL L = true) : ∃ v, e = .returned (.tuple #[v, .int .i64 0]) ∧ w'.ownsRow w.heap.size 5 1 v (frs L).length (bys (frs L)) ∧ Nw w w' := by
  obtain ⟨v, he, ho, hn⟩ := h
  rw [hok] at he
  unfold frO at ho
  rw [if_pos hok] at ho
  exact ⟨v, he, ho, hn⟩
end Go.Proofs.YtjgnapjhlhdgfaaDoor
