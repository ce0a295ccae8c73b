/- Frames: what bytes are scanned as. Plain; and rows of what was read. Frames: laws for the walks of both Scans. -/
import Derived.Test.YtjgnapjhlhdgfaaDoorDc
import Derived.Test.YtjgnapjhlhdgfaaDoorDb
import Derived.Great.BuildSlice
set_option linter.unusedVariables false
set_option linter.unusedSimpArgs false
namespace Go.Proofs.YtjgnapjhlhdgfaaDoor
open Go.RowKit

/-- The frame at the head: its record and how many bytes it has. -/
def sc1 (xs : List UInt8) : Option (RSt × Nat) :=
  if xs.length < 8 then none
  else if v4 xs > 131072 ∨ v4 xs > xs.length - 8 then none
  else if Crc.sum ((xs.drop 8).take (v4 xs)) ≠ v4 (xs.drop 4) then none
  else match rdR ((xs.drop 8).take (v4 xs)) with
    | none => none
    | some s => some (s, 8 + v4 xs)
def scF : Nat → List UInt8 → List RSt × Nat
  | 0, _ => ([], 0)
  | f + 1, xs =>
    match sc1 xs with
    | none => ([], 0)
    | some (s, k) => (s :: (scF f (xs.drop k)).1, k + (scF f (xs.drop k)).2)
def scn (xs : List UInt8) : List RSt × Nat := scF xs.length xs
theorem sc1_len {xs : List UInt8} {s : RSt} {k : Nat} (h : sc1 xs = some (s, k)) : 8 ≤ k ∧ k ≤ xs.length := by
  unfold sc1 at h
  split at h
  · cases h
  · split at h
    · cases h
    · split at h
      · cases h
      · split at h
        · cases h
        · simp only [Option.some.injEq, Prod.mk.injEq] at h
          omega
theorem scF_none {f : Nat} {xs : List UInt8} (h : sc1 xs = none) : scF f xs = ([], 0) := by
  cases f with
  | zero => rfl
  | succ f => simp only [scF, h]
/-- Ahead of the place p these were told. -/
def ScInv (xs : List UInt8) (p : Nat) (pre : List RSt) : Prop := ∃ f, xs.length - p ≤ f ∧ scn xs = (pre ++ (scF f (xs.drop p)).1, p + (scF f (xs.drop p)).2)
theorem ScInv.start (xs : List UInt8) : ScInv xs 0 [] := ⟨xs.length, by omega, by simp [scn]⟩
theorem ScInv.done {xs : List UInt8} {p : Nat} {pre : List RSt} (h : ScInv xs p pre) (hn : sc1 (xs.drop p) = none) : scn xs = (pre, p) := by
  obtain ⟨f, _, h⟩ := h
  rw [scF_none hn] at h
  simpa using h
theorem ScInv.step {xs : List UInt8} {p : Nat} {pre : List RSt} {s : RSt} {k : Nat} (h : ScInv xs p pre) (hs : sc1 (xs.drop p) = some (s, k)) : ScInv xs (p + k) (pre ++ [s]) := by
  obtain ⟨f, hf, h⟩ := h
  have hk := sc1_len hs
  rw [List.length_drop] at hk
  cases f with
  | zero => omega
  | succ f =>
    simp only [scF, hs] at h
    refine ⟨f, by omega, ?_⟩
    rw [h, List.drop_drop]
    simp [Nat.add_assoc]

/-- A row of records that were read: each as Got says. -/
structure Rws (lo hi : Nat) (W : World) (l : List RSt) (la : List Rc) (v : Value) : Prop where
  len : la.length = l.length
  row : W.ownsRow lo 36 11 v la.length (rcs la)
  got : ∀ (i : Nat) (s : RSt) (a : Rc), l[i]? = some s → la[i]? = some a → ∃ S sc D dc, a = s.a.at_ S sc D dc ∧ Got lo hi W s S sc D dc
  sD : Sep (la.map Rc.vD)
  sS : Sep (la.map Rc.vS)
  hv : ∀ g, v.ownBlock = some g → g < hi
theorem Rws.kp {lo hi : Nat} {W W' : World} {l : List RSt} {la : List Rc} {v : Value} {X : Nat → Prop} (h : Rws lo hi W l la v) (k : Kp X W W') (hX : ∀ g, lo ≤ g → g < hi → ¬ X g) : Rws lo hi W' l la v :=
  ⟨h.len, own_kp h.row k fun g hg => hX g (own_ge h.row hg) (h.hv g hg), fun i s a h1 h2 => by
    obtain ⟨S, sc, D, dc, e, hg⟩ := h.got i s a h1 h2
    exact ⟨S, sc, D, dc, e, hg.kp k hX⟩, h.sD, h.sS, h.hv⟩
theorem Rws.nw {lo hi : Nat} {W W' : World} {l : List RSt} {la : List Rc} {v : Value} (h : Rws lo hi W l la v) (k : Nw W W') : Rws lo hi W' l la v := h.kp k fun _ _ _ e => e
theorem Rws.nil (lo hi : Nat) (W : World) : Rws lo hi W [] [] (.slice none 0 0) :=
  ⟨rfl, World.ownsRow_nil _ _ _ _, fun i s a h => by simp at h, Sep.nil, Sep.nil, fun g h => by simp [Value.ownBlock] at h⟩

theorem Got.ty {lo hi b n : Nat} {W W' : World} {s : RSt} {S : Option Addr} {sc : Nat} {D : Option Addr} {dc : Nat} {v : Value} {xs : List Value} (h : Got lo hi W s S sc D dc) (hr : W.ownsRow b 36 11 v n xs) (k : Kp (fun g => v.ownBlock = some g) W W') : Got lo hi W' s S sc D dc :=
  ⟨own_kp h.os k fun g hg => own_ty h.os hr (by decide) hg, own_kp h.od k fun g hg => own_ty h.od hr (by decide) hg, h.hs, h.hd⟩
theorem Got.wide {lo hi lo' hi' : Nat} {W : World} {s : RSt} {S : Option Addr} {sc : Nat} {D : Option Addr} {dc : Nat} (h : Got lo hi W s S sc D dc) (h1 : lo' ≤ lo) (h2 : hi ≤ hi') : Got lo' hi' W s S sc D dc :=
  ⟨own_base h.os fun g hg => Nat.le_trans h1 (own_ge h.os hg), own_base h.od fun g hg => Nat.le_trans h1 (own_ge h.od hg), fun g hg => Nat.lt_of_lt_of_le (h.hs g hg) h2, fun g hg => Nat.lt_of_lt_of_le (h.hd g hg) h2⟩
theorem Rws.snoc {lo hi lo2 hi2 : Nat} {W W' : World} {l : List RSt} {la : List Rc} {v v' : Value} {s : RSt} {S : Option Addr} {sc : Nat} {D : Option Addr} {dc : Nat} (h : Rws lo hi W l la v) (k : Kp (fun g => v.ownBlock = some g) W W')
    (hg : Got lo2 hi2 W' s S sc D dc) (h1 : hi ≤ lo2) (h0 : lo ≤ lo2) (h2 : hi2 ≤ W'.heap.size) (hh : hi ≤ W'.heap.size) (hrow : W'.ownsRow lo 36 11 v' (la.length + 1) (rcs la ++ (s.a.at_ S sc D dc).cells.toList)) :
    Rws lo W'.heap.size W' (l ++ [s]) (la ++ [s.a.at_ S sc D dc]) v' := by
  have hold : ∀ (u : Rc), u ∈ la → ∃ (s : RSt) (S : Option Addr) (sc : Nat) (D : Option Addr) (dc : Nat), u = s.a.at_ S sc D dc ∧ Got lo hi W s S sc D dc := fun u hu => by
    obtain ⟨i, hi, e⟩ := List.getElem_of_mem hu
    have hil : i < l.length := by rw [← h.len]; exact hi
    obtain ⟨S, sc, D, dc, e2, hg⟩ := h.got i l[i] la[i] (List.getElem?_eq_getElem hil) (List.getElem?_eq_getElem hi)
    exact ⟨l[i], S, sc, D, dc, by rw [← e]; exact e2, hg⟩
  refine ⟨by simp [h.len], ?_, fun i t a ht ha => ?_, ?_, ?_, fun g hg => own_lt hrow hg⟩
  · rw [rcs_app, List.length_append]
    have e : rcs [s.a.at_ S sc D dc] = (s.a.at_ S sc D dc).cells.toList := by simp [rcs]
    rw [e]
    exact hrow
  · by_cases hil : i < l.length
    · rw [List.getElem?_append_left hil] at ht
      rw [List.getElem?_append_left (by rw [h.len]; exact hil)] at ha
      obtain ⟨S2, sc2, D2, dc2, e, hgo⟩ := h.got i t a ht ha
      exact ⟨S2, sc2, D2, dc2, e, (hgo.ty h.row k).wide (Nat.le_refl _) hh⟩
    · have hi2 := (List.getElem?_eq_some_iff.1 ht).1
      rw [List.length_append, List.length_singleton] at hi2
      have hie : i = l.length := by omega
      subst hie
      rw [List.getElem?_append_right (Nat.le_refl _), Nat.sub_self] at ht
      rw [List.getElem?_append_right (by rw [h.len]; exact Nat.le_refl _), h.len, Nat.sub_self] at ha
      simp only [List.getElem?_cons_zero, Option.some.injEq] at ht ha
      subst ht ha
      exact ⟨S, sc, D, dc, rfl, hg.wide h0 h2⟩
  · rw [List.map_append]
    refine h.sD.snoc fun u hu g hug e => ?_
    obtain ⟨a, ha, rfl⟩ := List.mem_map.1 hu
    obtain ⟨s2, S2, sc2, D2, dc2, rfl, hg2⟩ := hold a ha
    have e1 := hg2.hd g hug
    have e2 := own_ge hg.od e
    omega
  · rw [List.map_append]
    refine h.sS.snoc fun u hu g hug e => ?_
    obtain ⟨a, ha, rfl⟩ := List.mem_map.1 hu
    obtain ⟨s2, S2, sc2, D2, dc2, rfl, hg2⟩ := hold a ha
    have e1 := hg2.hs g hug
    have e2 := own_ge hg.os e
    omega

/-- What a Scan answers. -/
def ScPost (w : World) (xs : List UInt8) (e : Ending) (w' : World) : Prop :=
  ∃ (la : List Rc) (v : Value), e = .returned (.tuple #[v, .int .i64 ((scn xs).2 : Int)]) ∧ Rws w.heap.size w'.heap.size w' (scn xs).1 la v ∧ Nw w w'

end Go.Proofs.YtjgnapjhlhdgfaaDoor

namespace Go.Proofs.YtjgnapjhlhdgfaaDoor
open Go.RowKit

theorem Rws.wide' {lo hi lo' hi' : Nat} {W : World} {l : List RSt} {la : List Rc} {v : Value} (h : Rws lo hi W l la v) (h1 : lo' ≤ lo) (h2 : hi ≤ hi') : Rws lo' hi' W l la v :=
  ⟨h.len, own_base h.row fun g hg => Nat.le_trans h1 (own_ge h.row hg), fun i s a e1 e2 => by
    obtain ⟨S, sc, D, dc, e, hg⟩ := h.got i s a e1 e2
    exact ⟨S, sc, D, dc, e, hg.wide h1 h2⟩, h.sD, h.sS, fun g hg => Nat.lt_of_lt_of_le (h.hv g hg) h2⟩
theorem Tryd.elRc : Elem Tryd.prog 28 36 (.agg #[.int .i64 0, .int .i64 0, .int .i64 0, .int .i64 0, .int .i64 0, .int .i64 0, .int .i64 0, .int .i64 0, .int .i64 0, .slice none 0 0, .slice none 0 0]) 11 120 := ⟨Tryd.underlying28, by kernel_rfl, rfl, by omega⟩
/-- What ends a Scan. -/
structure ScEnd (w w' : World) (xs : List UInt8) (p : Nat) (v : Value) : Prop where
  ok : ∃ (pre : List RSt) (la : List Rc), ScInv xs p pre ∧ sc1 (xs.drop p) = none ∧ Rws w.heap.size w'.heap.size w' pre la v ∧ Nw w w'
theorem scend_of {w wr w' : World} {xs : List UInt8} {p : Nat} {pre : List RSt} {la : List Rc} {v : Value} (h : Hid (ScInv xs p pre)) (hn : Hid (sc1 (xs.drop p) = none)) (hR : Hid (Rws w.heap.size wr.heap.size wr pre la v)) (hk : Nw wr w') (hnw : Nw w wr) :
    ScEnd w w' xs p v := ⟨pre, la, h.out, hn.out, (hR.out.nw hk).wide' (Nat.le_refl _) hk.size, hnw.nw hk⟩
theorem scpost_of {w w' : World} {xs : List UInt8} {p : Nat} {v : Value} (h : ScEnd w w' xs p v) : ScPost w xs (.returned (.tuple #[v, .int .i64 (p : Int)])) w' := by
  obtain ⟨pre, la, h1, hn, hR, hk⟩ := h.ok
  have hd := h1.done hn
  exact ⟨la, v, by rw [hd], by rw [hd]; exact hR, hk⟩
theorem sc1_short {xs : List UInt8} (h : xs.length < 8) : sc1 xs = none := by
  unfold sc1
  rw [if_pos h]
theorem sc1_big {xs : List UInt8} (h8 : ¬ xs.length < 8) (h : v4 xs > 131072 ∨ v4 xs > xs.length - 8) : sc1 xs = none := by
  unfold sc1
  rw [if_neg h8, if_pos h]
theorem sc1_rest {xs : List UInt8} (h8 : ¬ xs.length < 8) (h : ¬ (v4 xs > 131072 ∨ v4 xs > xs.length - 8)) : sc1 xs =
    if Crc.sum ((xs.drop 8).take (v4 xs)) ≠ v4 (xs.drop 4) then none else match rdR ((xs.drop 8).take (v4 xs)) with | none => none | some s => some (s, 8 + v4 xs) := by
  conv => lhs; unfold sc1
  rw [if_neg h8, if_neg h]
theorem sc1_sum {xs : List UInt8} (h8 : ¬ xs.length < 8) (h : ¬ (v4 xs > 131072 ∨ v4 xs > xs.length - 8)) (hs : Crc.sum ((xs.drop 8).take (v4 xs)) ≠ v4 (xs.drop 4)) : sc1 xs = none := by
  rw [sc1_rest h8 h, if_pos hs]
theorem sc1_bad {xs : List UInt8} (h8 : ¬ xs.length < 8) (h : ¬ (v4 xs > 131072 ∨ v4 xs > xs.length - 8)) (hr : rdR ((xs.drop 8).take (v4 xs)) = none) : sc1 xs = none := by
  rw [sc1_rest h8 h, hr]
  split <;> rfl
theorem sc1_good {xs : List UInt8} {s : RSt} (h8 : ¬ xs.length < 8) (h : ¬ (v4 xs > 131072 ∨ v4 xs > xs.length - 8)) (hs : Crc.sum ((xs.drop 8).take (v4 xs)) = v4 (xs.drop 4)) (hr : rdR ((xs.drop 8).take (v4 xs)) = some s) : sc1 xs = some (s, 8 + v4 xs) := by
  rw [sc1_rest h8 h, hr, if_neg (by simpa using hs)]
theorem v4_lt (xs : List UInt8) : v4 xs < 4294967296 := by
  unfold v4
  have h0 := (xs.getD 0 0).toNat_lt
  have h1 := (xs.getD 1 0).toNat_lt
  have h2 := (xs.getD 2 0).toNat_lt
  have h3 := (xs.getD 3 0).toNat_lt
  omega
theorem v4_take (xs : List UInt8) : v4 (xs.take 4) = v4 xs := by
  unfold v4
  simp only [List.getD_eq_getElem?_getD, List.getElem?_take]
  rfl
theorem rdO_small {xs : List UInt8} (h : xs.length ≤ 131072) : rdO xs = match rdR xs with | none => (⟨zeroR, [], [], []⟩, 61) | some s => (s, 0) := by
  unfold rdO
  rw [if_neg (by omega)]
  cases rdR xs <;> rfl
theorem rdO_none {xs : List UInt8} (h : xs.length ≤ 131072) (hr : rdR xs = none) : rdO xs = (⟨zeroR, [], [], []⟩, 61) := by rw [rdO_small h, hr]
theorem rdO_some {xs : List UInt8} {s : RSt} (h : xs.length ≤ 131072) (hr : rdR xs = some s) : rdO xs = (s, 0) := by rw [rdO_small h, hr]

/-- Where a slice 'b[l:h]' lies. -/
def cutA (A : Option Addr) (c l : Nat) : Option Addr := if c = l then A else A.map (·.add l)
theorem Rd.cutA {w : World} {ok : Nat → Prop} {n c l h : Nat} {A : Option Addr} {xs : List UInt8} (hr : Rd w ok 1 A n (bys xs)) (h1 : l ≤ h) (h2 : h ≤ n) (hc : n ≤ c) : Rd w ok 1 (cutA A c l) (h - l) (bys ((xs.drop l).take (h - l))) := by
  have h3 := hr.cut1 (k := l) (cap := c) (by omega) hc
  have h4 := h3.take (k := h - l) (by omega)
  rw [Nat.mul_one, ← bys_drop, ← bys_take] at h4
  exact h4
section
variable {P : Program} {ops : Array Oper} {rest : List Oper} {o : Oper} {a : Act} {w : World} {Q : Exit → Act → World → Prop}
theorem run_cutlh (t e : TypeId) (ht : P.underlying t = some (.slice e)) (hz : (P.info? e).map (·.size) = some 1) (A : Option Addr) (n c l h : Nat) (h1 : l ≤ h) (h2 : h ≤ c) :
    (Instr.slice t (.slice A n c) (some (.int .i64 (l : Int))) (some (.int .i64 (h : Int))) none).run P w = .ok (.slice (cutA A c l) (h - l) (c - l)) w := by
  have hel : P.elem t = e := by simp [Program.elem, ht]
  have hsz : (sizeOf (P.elem t)).run P w = .ok 1 w := by
    rw [hel]
    cases hq : P.info? e with
    | none => simp [hq] at hz
    | some i =>
      have hs : i.size = 1 := by simpa [hq] using hz
      simp [sizeOf, typeInfo, hq, hs]
  have hr := run_slice_lh (P := P) (w := w) t A n c (by rw [hel]; exact ht) .i64 .i64 (l : Int) (h : Int) (by omega) (by omega) (by omega)
  rw [hr, hsz]
  simp [Result.andThen, sliced, Go.Proofs.YtjgnapjhlhdgfaaDoor.cutA]
theorem wpList_cutlh (hgd : o.guard = none) (x lo hi : Operand) (t e : TypeId) (ho : o.op = .slice t x (some lo) (some hi) none) (ht : P.underlying t = some (.slice e)) (hz : (P.info? e).map (·.size) = some 1)
    (A : Option Addr) (n c l h : Nat) (L H : Int) (hx : a.eval x = .slice A n c) (hl : a.eval lo = .int .i64 L) (hh : a.eval hi = .int .i64 H) (eL : L = l) (eH : H = h) (h1 : l ≤ h) (h2 : h ≤ c)
    (k : wpList P ops Q rest (a.put o.dst (.slice (cutA A c l) (h - l) (c - l))) w) : wpList P ops Q (o :: rest) a w := by
  subst eL eH
  have hel : P.elem t = e := by simp [Program.elem, ht]
  refine wpList_plain hgd fun K hK => ?_
  have hr : (Instr.sliceAt t (.slice A n c) (some (.int .i64 l)) (some (.int .i64 h)) none).run P w = .ok (.slice (cutA A c l) (h - l) (c - l)) w := by
    have h0 := run_sliceAt_slice (P := P) (w := w) t (.slice A n c) (some (.int .i64 l)) (some (.int .i64 h)) none (by rw [hel]; exact ht)
    rw [h0, run_cutlh t e ht hz A n c l h h1 h2]
  unfold Oper.wp execOp
  simp only [ho, hx, hl, hh, Option.map_some, Option.map_none, Sem.run_bind, Sem.run_pure, Result.andThen_ok, hr]
  exact hK _ _ k
theorem wpList_cutl (hgd : o.guard = none) (x lo : Operand) (t e : TypeId) (ho : o.op = .slice t x (some lo) none none) (ht : P.underlying t = some (.slice e)) (hz : (P.info? e).map (·.size) = some 1)
    (A : Option Addr) (n c l : Nat) (L : Int) (hx : a.eval x = .slice A n c) (hl : a.eval lo = .int .i64 L) (eL : L = l) (h1 : l ≤ n) (h2 : n ≤ c)
    (k : wpList P ops Q rest (a.put o.dst (.slice (cutA A c l) (n - l) (c - l))) w) : wpList P ops Q (o :: rest) a w := by
  subst eL
  have hel : P.elem t = e := by simp [Program.elem, ht]
  refine wpList_plain hgd fun K hK => ?_
  have hsz : (sizeOf (P.elem t)).run P w = .ok 1 w := by
    rw [hel]
    cases hq : P.info? e with
    | none => simp [hq] at hz
    | some i =>
      have hs : i.size = 1 := by simpa [hq] using hz
      simp [sizeOf, typeInfo, hq, hs]
  have hr : (Instr.sliceAt t (.slice A n c) (some (.int .i64 l)) none none).run P w = .ok (.slice (cutA A c l) (n - l) (c - l)) w := by
    have h0 := run_sliceAt_slice (P := P) (w := w) t (.slice A n c) (some (.int .i64 l)) none none (by rw [hel]; exact ht)
    have h1' := run_slice_l (P := P) (w := w) t A n c (by rw [hel]; exact ht) .i64 (l : Int) (by omega) (by omega)
    rw [h0, h1', hsz]
    simp [Result.andThen, sliced, Go.Proofs.YtjgnapjhlhdgfaaDoor.cutA]
  unfold Oper.wp execOp
  simp only [ho, hx, hl, Option.map_some, Option.map_none, Sem.run_bind, Sem.run_pure, Result.andThen_ok, hr]
  exact hK _ _ k
end
theorem Rd.cutAl {w : World} {ok : Nat → Prop} {n c l : Nat} {A : Option Addr} {xs : List UInt8} (hr : Rd w ok 1 A n (bys xs)) (h1 : l ≤ n) (hc : n ≤ c) : Rd w ok 1 (Go.Proofs.YtjgnapjhlhdgfaaDoor.cutA A c l) (n - l) (bys (xs.drop l)) := by
  have h3 := hr.cut1 (k := l) (cap := c) h1 hc
  rw [← bys_drop] at h3
  exact h3
/-- A slice literal of one struct. -/
theorem fill_one {s : Nat} (hs : 0 < s) (cs init : Array Value) (hc : cs.size = s) (hi : init.size = s) : Instr.fill (fun i => some (i * s, s)) init [(0, .agg cs)] = some cs := by
  obtain ⟨r, h1, h2, h3⟩ := Great.fill_dense hs [.agg cs] 0 init (fun v hv => by rw [List.mem_singleton.1 hv]; exact hc) (by simp [hi])
  have e : (([.agg cs] : List Value).zipIdx 0).map (fun x => (x.2, x.1)) = [(0, .agg cs)] := rfl
  rw [e] at h1
  rw [h1]
  congr 1
  apply Array.ext_getElem?
  intro k
  rw [h3 k]
  simp only [Nat.zero_mul, Nat.zero_add, List.length_singleton, Nat.one_mul, Nat.sub_zero]
  by_cases hk : k < s
  · rw [if_pos ⟨Nat.zero_le _, hk⟩, Nat.div_eq_of_lt hk, Nat.mod_eq_of_lt hk]
    rfl
  · rw [if_neg (by omega), Array.getElem?_eq_none (by omega), Array.getElem?_eq_none (by omega)]
theorem wpList_build1 {P : Program} {ops : Array Oper} {rest : List Oper} {o : Oper} {a : Act} {w : World} {Q : Exit → Act → World → Prop} (hgd : o.guard = none) (t e : TypeId) (x : Operand) (ho : o.op = .buildSlice t 1 #[(0, x)]) {z : Value} {size bytes : Nat} (ei : Elem P t e z size bytes)
    (cs : Array Value) (hx : a.eval x = .agg cs) (hc : cs.size = size) (hsmall : size ≤ 1000) (h : wpList P ops Q rest (a.put o.dst (.slice (some ⟨w.heap.size, 0, none⟩) 1 1)) (w.alloc (.cells cs e))) : wpList P ops Q (o :: rest) a w := by
  obtain ⟨i, hi, hz, hsz, _⟩ := info_parts ei.info
  have hp := ei.pos
  refine wpList_buildSlice hgd t e 1 #[(0, x)] ho cs i z ei.ht hi hz (by rw [hsz]; omega) (by rw [hsz]; omega) ?_ h
  have e1 : ((#[(0, x)] : Array (Nat × Operand)).map fun (i, x) => (i, a.eval x)).toList = [(0, .agg cs)] := by simp [hx]
  rw [e1, hsz]
  exact fill_one hp cs _ hc (by simp)
theorem sc1_at {xs ys : List UInt8} {p n V : Nat} (hl : (xs.drop p).length = n - p) (h8 : ¬ n - p < 8) (hV : ¬ (V > 131072 ∨ V > n - p - 8)) (eV : v4 (xs.drop p) = V) (ey : (xs.drop (p + 8)).take V = ys) :
    (Crc.sum ys ≠ v4 (xs.drop (p + 4)) → sc1 (xs.drop p) = none) ∧ (rdR ys = none → sc1 (xs.drop p) = none) ∧ ∀ s, Crc.sum ys = v4 (xs.drop (p + 4)) → rdR ys = some s → sc1 (xs.drop p) = some (s, 8 + V) := by
  have e4 : xs.drop (p + 4) = (xs.drop p).drop 4 := by rw [List.drop_drop]
  have e8 : xs.drop (p + 8) = (xs.drop p).drop 8 := by rw [List.drop_drop]
  rw [e8] at ey
  rw [e4]
  subst eV ey
  rw [← hl] at h8 hV
  exact ⟨fun h => sc1_sum h8 hV h, fun h => sc1_bad h8 hV h, fun s h1 h2 => sc1_good h8 hV h1 h2⟩
end Go.Proofs.YtjgnapjhlhdgfaaDoor
