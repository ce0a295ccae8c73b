/- Words of memory for this seat's walks: frames between worlds, rows that are read, bytes as cells. No condition. -/
import Derived.WalkKit
import Derived.WalkSpells
import Derived.WalkLawsBesides
import Derived.Lib.Hide
import Derived.Deep.Draws
import Derived.Deep.AppendLies
import Derived.Maps.AppendAt
import Derived.Laws.CopyOwn
import Derived.PlainAid
set_option linter.unusedVariables false
set_option linter.unusedSimpArgs false
namespace Go.Proofs.YtjgnapjhlhdgfaaDoor
open Go.RowKit

/-! ### Frames -/
/-- w' is w with new blocks; of the old ones only those of S may have turned. -/
structure Kp (S : Nat → Prop) (w w' : World) : Prop where
  os : w'.os = w.os
  tape : w'.tape = w.tape
  output : w'.output = w.output
  size : w.heap.size ≤ w'.heap.size
  block : ∀ k, k < w.heap.size → ¬ S k → w'.heap[k]? = w.heap[k]?

/-- Nothing old has turned. -/
abbrev Nw (w w' : World) : Prop := Kp (fun _ => False) w w'

section
variable {S T : Nat → Prop} {a w w' : World}
theorem Kp.refl (S : Nat → Prop) (w : World) : Kp S w w := ⟨rfl, rfl, rfl, Nat.le_refl _, fun _ _ _ => rfl⟩
theorem Kp.mono (h : Kp S a w) (hs : ∀ k, k < a.heap.size → S k → T k) : Kp T a w := ⟨h.os, h.tape, h.output, h.size, fun k hk hn => h.block k hk fun e => hn (hs k hk e)⟩
/-- A second step may turn what S lets, and what is new since the first world. -/
theorem Kp.trans (h : Kp S a w) (k : Kp T w w') (hs : ∀ i, i < a.heap.size → T i → S i) : Kp S a w' :=
  ⟨k.os.trans h.os, k.tape.trans h.tape, k.output.trans h.output, Nat.le_trans h.size k.size,
    fun i hi hn => (k.block i (Nat.lt_of_lt_of_le hi h.size) fun e => hn (hs i hi e)).trans (h.block i hi hn)⟩
theorem Kp.nw (h : Kp S a w) (k : Nw w w') : Kp S a w' := h.trans k fun _ _ e => e.elim
theorem Kp.drew (h : Kp S a w) : Kp S a w.drew := ⟨h.os, h.tape, h.output, h.size, h.block⟩
theorem Kp.drewN (h : Kp S a w) (n : Nat) : Kp S a (w.drewN n) := ⟨h.os, h.tape, h.output, h.size, h.block⟩
theorem Kp.alloc (h : Kp S a w) (o : Obj) : Kp S a (w.alloc o) :=
  ⟨h.os, h.tape, h.output, Nat.le_trans h.size (by simp), fun i hi hne => (Below.heap_alloc w o i (Nat.lt_of_lt_of_le hi h.size)).trans (h.block i hi hne)⟩
theorem Kp.setCell (h : Kp S a w) {p : Addr} (hp : p.block < a.heap.size → S p.block) (u : Value) : Kp S a (w.setCell p u) :=
  ⟨h.os, h.tape, h.output, by simpa [World.setCell] using h.size, fun i hi hne => (Below.heap_setCell w p u i (by
    rintro rfl
    exact hne (hp hi))).trans (h.block i hi hne)⟩
theorem Kp.of_grown {row : Option Nat} (h : a.grownBy w row) : Kp (fun k => some k = row) a w := ⟨h.os, h.tape, h.output, h.size, h.block⟩
theorem Kp.grown {row : Option Nat} (h : Kp S a w) (hg : w.grownBy w' row) (hr : ∀ k, row = some k → k < a.heap.size → S k) : Kp S a w' :=
  h.trans (Kp.of_grown hg) fun k hk e => hr k e.symm hk
theorem Kp.one {g : Nat} (h : Kp (fun k => k = g) a w) (hg : w.grownBy w' (some g)) : Kp (fun k => k = g) a w' := h.grown hg fun k e _ => by injection e with e; exact e.symm
theorem Kp.below (h : Kp S a w) {B : Nat} (hB : B ≤ a.heap.size) (hs : ∀ k, S k → B ≤ k) : Below B a w :=
  ⟨h.os, h.tape, h.output, h.size, fun k hk => h.block k (by omega) fun e => by have := hs k e; omega⟩
theorem Nw.below (h : Nw a w) : Below a.heap.size a w := Kp.below h (Nat.le_refl _) fun _ e => e.elim
theorem Kp.of_below (h : Below a.heap.size a w) : Kp S a w := ⟨h.os, h.tape, h.output, h.size, fun k hk _ => h.block k hk⟩
theorem Kp.cell (h : Kp S a w) {p : Addr} (hp : p.block < a.heap.size) (hn : ¬ S p.block) : w.cell? p = a.cell? p := World.cell?_of_block (h.block p.block hp hn)
theorem Kp.grownBy (h : Kp S a w) {g : Nat} (hs : ∀ k, S k → k = g) : a.grownBy w (some g) := ⟨h.os, h.tape, h.output, h.size, fun k hk hne => h.block k hk fun e => hne (by rw [hs k e])⟩
end

/-! ### A slice that reads as cells -/
theorem block_of_add (a : Addr) (n : Nat) : (a.add n).block = a.block := by unfold Addr.add; split <;> rfl
theorem add_of_add (a : Addr) (i j : Nat) : (a.add i).add j = a.add (i + j) := by
  unfold Addr.add
  by_cases hi : i = 0 <;> by_cases hj : j = 0 <;> simp [hi, hj, Nat.add_assoc]

/-- The slice value '.slice A n c' holds the cells xs, in a block of 'ok'. -/
def Rd (w : World) (ok : Nat → Prop) (size : Nat) (A : Option Addr) (n : Nat) (xs : List Value) : Prop :=
  xs.length = n * size ∧ (0 < n → ∃ ad, A = some ad ∧ ok ad.block ∧ ∀ j u, xs[j]? = some u → w.cell? (ad.add j) = some u)

section
variable {w w' : World} {ok ok' S : Nat → Prop} {size n : Nat} {A : Option Addr} {xs : List Value}
theorem Rd.nil_ : Rd w ok size A 0 [] := ⟨by simp, fun h => absurd h (by omega)⟩
theorem Rd.len (h : Rd w ok 1 A n xs) : xs.length = n := by have := h.1; omega
theorem Rd.at_ {k : Nat} (h : Rd w ok 1 A n xs) (hk : k < n) : ∃ ad u, A = some ad ∧ ok ad.block ∧ xs[k]? = some u ∧ w.cell? (ad.add k) = some u := by
  obtain ⟨ad, e, hb, hc⟩ := h.2 (by omega)
  have hl : k < xs.length := by have := h.1; omega
  exact ⟨ad, xs[k], e, hb, List.getElem?_eq_getElem hl, hc k _ (List.getElem?_eq_getElem hl)⟩
theorem Rd.cell_ {ad : Addr} (h : Rd w ok 1 (some ad) n xs) {i : Nat} {v : Value} (hv : xs[i]? = some v) : w.cell? (ad.add i) = some v := by
  have hi := (List.getElem?_eq_some_iff.1 hv).1
  have hl := h.1
  obtain ⟨ad', e, _, hc⟩ := h.2 (by omega)
  injection e with e
  subst e
  exact hc i v hv
theorem Rd.keep (h : Rd w ok size A n xs) (hk : ∀ p : Addr, ok p.block → p.block < w.heap.size → w'.cell? p = w.cell? p) : Rd w' ok size A n xs :=
  ⟨h.1, fun hn => by
    obtain ⟨ad, e, hb, hc⟩ := h.2 hn
    refine ⟨ad, e, hb, fun j u hu => ?_⟩
    have hlt := World.block_lt_of_cell? w _ (hc j u hu)
    rw [hk _ (by rw [block_of_add]; exact hb) hlt]
    exact hc j u hu⟩
theorem Rd.more (h : Rd w ok size A n xs) (hB : ∀ k, ok k → ok' k) : Rd w ok' size A n xs :=
  ⟨h.1, fun hn => by
    obtain ⟨ad, e, hb, hc⟩ := h.2 hn
    exact ⟨ad, e, hB _ hb, hc⟩⟩
theorem Rd.kp (h : Rd w ok size A n xs) (hb : Kp S w w') (hs : ∀ k, ok k → ¬ S k) : Rd w' ok size A n xs := h.keep fun p hp hlt => hb.cell hlt (hs _ hp)
theorem Rd.nw (h : Rd w ok size A n xs) (hb : Nw w w') : Rd w' ok size A n xs := h.kp hb fun _ _ e => e
theorem Rd.old (h : Rd w ok size A n xs) (hs : 0 < size) : Rd w (fun k => ok k ∧ k < w.heap.size) size A n xs :=
  ⟨h.1, fun hn => by
    obtain ⟨ad, e, hb, hc⟩ := h.2 hn
    have hl : 0 < xs.length := by rw [h.1]; exact Nat.mul_pos hn hs
    refine ⟨ad, e, ⟨hb, ?_⟩, hc⟩
    have := World.block_lt_of_cell? w _ (hc 0 _ (List.getElem?_eq_getElem hl))
    rwa [block_of_add] at this⟩
theorem Rd.drew (h : Rd w ok size A n xs) : Rd w.drew ok size A n xs := h
theorem Rd.drewN (h : Rd w ok size A n xs) (k : Nat) : Rd (w.drewN k) ok size A n xs := h
theorem Rd.alloc (h : Rd w ok size A n xs) (o : Obj) : Rd (w.alloc o) ok size A n xs := h.nw (Kp.alloc (Kp.refl _ _) o)
theorem Rd.cut (h : Rd w ok size A n xs) {k cap : Nat} (hk : k ≤ n) (hc : n ≤ cap) :
    Rd w ok size (if cap = k then A else A.map (·.add (k * size))) (n - k) (xs.drop (k * size)) := by
  refine ⟨by rw [List.length_drop, h.1, Nat.sub_mul], fun hn => ?_⟩
  obtain ⟨ad, rfl, hb, hcell⟩ := h.2 (by omega)
  rw [if_neg (by omega)]
  refine ⟨ad.add (k * size), rfl, by rw [block_of_add]; exact hb, fun j u hu => ?_⟩
  rw [add_of_add]
  exact hcell _ u (by rw [← hu, List.getElem?_drop])
theorem Rd.cut1 (h : Rd w ok 1 A n xs) {k cap : Nat} (hk : k ≤ n) (hc : n ≤ cap) : Rd w ok 1 (if cap = k then A else A.map (fun a => a.add k)) (n - k) (xs.drop k) := by
  have := h.cut hk hc
  rwa [Nat.mul_one] at this
theorem Rd.cut2 (h : Rd w ok 1 A n xs) {k cap : Nat} (hk : k < n) (hc : n ≤ cap) : Rd w ok 1 (A.map (fun a => a.add k)) (n - k) (xs.drop k) := by
  have := h.cut1 (k := k) (cap := cap) (by omega) hc
  rwa [if_neg (by omega)] at this
theorem Rd.take (h : Rd w ok size A n xs) {k : Nat} (hk : k ≤ n) : Rd w ok size A k (xs.take (k * size)) := by
  refine ⟨by rw [List.length_take, h.1]; exact Nat.min_eq_left (Nat.mul_le_mul_right _ hk), fun hn => ?_⟩
  obtain ⟨ad, rfl, hb, hcell⟩ := h.2 (by omega)
  refine ⟨ad, rfl, hb, fun j u hu => hcell j u ?_⟩
  rw [List.getElem?_take] at hu
  split at hu
  · exact hu
  · cases hu
theorem Rd.of_own {base : Nat} {e : TypeId} {c : Nat} (h : w.ownsRow base e size (.slice A n c) n xs) : Rd w (fun k => (Value.slice A n c).ownBlock = some k) size A n xs := by
  refine ⟨h.1, fun hn => ?_⟩
  obtain ⟨g, cap, hv, _, hlt⟩ := h.form hn
  have hA : A = some ⟨g, 0, none⟩ := by injection hv
  subst hA
  exact ⟨_, rfl, rfl, h.cells (g := g) rfl⟩
end

/-! ### Bytes -/
def bv (b : UInt8) : Value := .int .u8 (b.toNat : Int)
def bys (l : List UInt8) : List Value := l.map bv
theorem bys_len (l : List UInt8) : (bys l).length = l.length := by simp [bys]
theorem bys_one (l : List UInt8) : ∀ u ∈ bys l, u.oneCell' = true := by
  intro u hu
  obtain ⟨b, _, rfl⟩ := List.mem_map.1 hu
  rfl
theorem bys_app (a b : List UInt8) : bys (a ++ b) = bys a ++ bys b := by simp [bys]
theorem bys_drop (l : List UInt8) (k : Nat) : bys (l.drop k) = (bys l).drop k := by simp [bys, List.map_drop]
theorem bys_take (l : List UInt8) (k : Nat) : bys (l.take k) = (bys l).take k := by simp [bys, List.map_take]
theorem bys_at {l : List UInt8} {k : Nat} (h : k < l.length) : (bys l)[k]? = some (.int .u8 ((l[k]'h).toNat : Int)) := by simp [bys, h, bv]
theorem Rd.byte {w : World} {ok : Nat → Prop} {A : Option Addr} {n k : Nat} {l : List UInt8} (h : Rd w ok 1 A n (bys l)) (hk : k < l.length) :
    ∃ ad, A = some ad ∧ ok ad.block ∧ w.cell? (ad.add k) = some (.int .u8 ((l[k]'hk).toNat : Int)) := by
  have hn : l.length = n := by have := h.len; rwa [bys_len] at this
  obtain ⟨ad, u, rfl, ho, hx, hc⟩ := h.at_ (k := k) (by omega)
  rw [bys_at hk] at hx
  injection hx with hx
  exact ⟨ad, rfl, ho, by rw [hc, hx]⟩
theorem add_zero_ (a : Addr) : a.add 0 = a := by simp [Addr.add]
theorem bv_mk {x : Int} (h0 : 0 ≤ x) (h1 : x < 256) : (.int .u8 x : Value) = bv (UInt8.ofNat x.toNat) := by
  unfold bv
  congr 1
  simp only [UInt8.toNat_ofNat']
  omega

theorem rfl_slice {A : Option Addr} {n m c : Nat} (h : n = m) : Value.slice A n c = .slice A m c := by rw [h]
/-- The length in a slot: for a loop's measure. -/
def lenIn : Value → Nat | .slice _ n _ => n | _ => 0

/-! ### Words of 64 bits -/
def wv (n : Nat) : Value := .int .u64 (n : Int)
def wds (l : List Nat) : List Value := l.map wv
theorem wds_len (l : List Nat) : (wds l).length = l.length := by simp [wds]
theorem wds_one (l : List Nat) : ∀ u ∈ wds l, u.oneCell' = true := by
  intro u hu
  obtain ⟨b, _, rfl⟩ := List.mem_map.1 hu
  rfl
theorem wds_app (a b : List Nat) : wds (a ++ b) = wds a ++ wds b := by simp [wds]
theorem wds_at {l : List Nat} {k : Nat} (h : k < l.length) : (wds l)[k]? = some (.int .u64 ((l[k]'h : Nat) : Int)) := by simp [wds, h, wv]
theorem Rd.word {w : World} {ok : Nat → Prop} {A : Option Addr} {n k : Nat} {l : List Nat} (h : Rd w ok 1 A n (wds l)) (hk : k < l.length) :
    ∃ ad, A = some ad ∧ ok ad.block ∧ w.cell? (ad.add k) = some (.int .u64 ((l[k]'hk : Nat) : Int)) := by
  have hn : l.length = n := by have := h.len; rwa [wds_len] at this
  obtain ⟨ad, u, rfl, ho, hx, hc⟩ := h.at_ (k := k) (by omega)
  rw [wds_at hk] at hx
  injection hx with hx
  exact ⟨ad, rfl, ho, by rw [hc, hx]⟩

/-- A row of the call's own, from block B on. -/
theorem own_ge {w : World} {base e size n : Nat} {v : Value} {xs : List Value} (h : w.ownsRow base e size v n xs) {g : Nat} (hg : v.ownBlock = some g) : base ≤ g := (h.lt g hg).1
/-- Writes to a row that is new since a say nothing of what was there. -/
theorem Nw.row {a w w' : World} {e size n : Nat} {v : Value} {xs : List Value} (h : Nw a w) (ho : w.ownsRow a.heap.size e size v n xs) (k : Kp (fun g => v.ownBlock = some g) w w') : Nw a w' :=
  h.trans k fun i hi e => by have := own_ge ho e; omega

/-- A row from a's first new block on doesn't turn what is read below it. -/
theorem Rd.row {a w w' : World} {ok : Nat → Prop} {size n e es m : Nat} {A : Option Addr} {xs ys : List Value} {v : Value} (h : Rd w ok size A n xs) (hok : ∀ k, ok k → k < a.heap.size)
    (ho : w.ownsRow a.heap.size e es v m ys) (k : Kp (fun g => v.ownBlock = some g) w w') : Rd w' ok size A n xs :=
  h.kp k fun i hi e => by have := own_ge ho e; have := hok i hi; omega

/-! ### append onto a row of the call's own -/
/-- What is known of a slice type's elements. -/
structure Elem (P : Program) (t e : TypeId) (z : Value) (size bytes : Nat) : Prop where
  ht : P.underlying t = some (.slice e)
  info : (P.info? e).map (fun i => (i.zero, i.size, i.bytes)) = some (some z, size, bytes)
  zs : z.cells.size = size
  pos : 0 < size

/-- 'make([]T, n, c)'. -/
theorem run_mk {P : Program} {t e : TypeId} {z : Value} {size bytes : Nat} (ei : Elem P t e z size bytes) (n c : Nat) (hnc : n ≤ c) (hb : bytes * c ≤ 281474976710656) (h63 : c ≤ 9223372036854775807) (w : World) :
    (Instr.makeSlice t (.int .i64 (n : Int)) (.int .i64 (c : Int))).run P w = .ok (.slice (some ⟨w.heap.size, 0, none⟩) n c) (w.alloc (.cells (madeCells z.cells (c * size)) e)) := by
  obtain ⟨i, hi, hz, hsz, hby⟩ := info_parts ei.info
  have hb' : (i.bytes : Int) * (c : Int) ≤ 281474976710656 := by
    have h : ((i.bytes * c : Nat) : Int) ≤ 281474976710656 := by rw [hby]; omega
    rwa [Int.natCast_mul] at h
  have hr := run_make (P := P) w t e i z ei.ht hi hz .i64 .i64 n c (by omega) (by omega) hb' (by omega)
  simp only [Int.toNat_natCast, hsz] at hr
  exact hr
theorem mk_size (z : Array Value) (n : Nat) : (madeCells z n).size = n := by simp [madeCells]

/-- Where the row lies behind an append: where it lay, or in a new block. -/
def OwnAt (W : World) (v v' : Value) : Prop := v'.ownBlock = v.ownBlock ∨ ∃ g, v'.ownBlock = some g ∧ W.heap.size ≤ g
theorem OwnAt.refl (W : World) (v : Value) : OwnAt W v v := .inl rfl
theorem OwnAt.trans {W W1 : World} {u v x : Value} (h : OwnAt W u v) (k : OwnAt W1 v x) (hs : W.heap.size ≤ W1.heap.size) : OwnAt W u x := by
  rcases k with k | ⟨g, k, hg⟩
  · rcases h with h | ⟨g, h, hg⟩
    · exact .inl (k.trans h)
    · exact .inr ⟨g, k.trans h, hg⟩
  · exact .inr ⟨g, k, by omega⟩
/-- The writes of an append behind another one are writes to the first row, or to what is new. -/
theorem OwnAt.kp {S : Nat → Prop} {W W1 w : World} {u v : Value} (h : Kp S W W1) (ha : OwnAt W u v) (hS : ∀ g, u.ownBlock = some g → S g) (k : Kp (fun g => v.ownBlock = some g) W1 w) : Kp S W w :=
  h.trans k fun i hi e => by
    rcases ha with ha | ⟨g, ha, hg⟩
    · exact hS i (by rw [← ha]; exact e)
    · rw [ha] at e
      injection e with e
      omega

theorem Kp.of_row {a w : World} {v : Value} (h : a.grownBy w v.ownBlock) : Kp (fun g => v.ownBlock = some g) a w :=
  ⟨h.os, h.tape, h.output, h.size, fun k hk hn => h.block k hk fun e => hn e.symm⟩

section
variable {P : Program} {ops : Array Oper} {rest : List Oper} {o : Oper} {a : Act} {Q : Exit → Act → World → Prop}
/-- 'append(v, x, ..)': the new elements lie in a block of their own, which was laid just ahead. -/
theorem wpList_app1 (W : World) (cs : Array Value) (e' : TypeId) (hgd : o.guard = none) (s x : Operand) (t e : TypeId)
    (ho : o.op = .call { callee := .builtin .append, args := #[s, x], argTypes := #[t, t] }) {z : Value} {size bytes : Nat} (ei : Elem P t e z size bytes)
    (base : Nat) (v : Value) (n : Nat) (xs : List Value) (hown : W.ownsRow base e size v n xs) (hs : a.eval s = v)
    (m c : Nat) (hx : a.eval x = .slice (some ⟨W.heap.size, 0, none⟩) m c) (hcs : cs.size = m * size) (h1 : ∀ u ∈ cs.toList, u.oneCell' = true)
    (h63 : n + m ≤ maxLen) (hb : (n + m) * bytes ≤ 140737488355328) (hbase : base ≤ W.heap.size)
    (h : ∀ v' w', w'.ownsRow base e size v' (n + m) (xs ++ cs.toList) → Kp (fun g => v.ownBlock = some g) W w' → OwnAt W v v' → wpList P ops Q rest (a.put o.dst v') w') :
    wpList P ops Q (o :: rest) a (W.alloc (.cells cs e')) := by
  obtain ⟨i, hi, hz, hsz, hby⟩ := info_parts ei.info
  refine wpList_append_own_at _ hgd s x t ho base e i z size bytes ei.ht hi hz hsz hby ei.zs ei.pos v n xs hs (hown.alloc _) ⟨W.heap.size, 0, none⟩ m c cs.toList hx (by simpa using hcs) ?_ h1 h63 hb (by simp; omega) ?_
  · exact World.news_of_block (heap_alloc_new W _)
  · intro v' w' h2 h3 _ h4
    refine h v' w' h2 (((Kp.refl _ W).alloc _).trans (Kp.of_row h3) fun _ _ e => e) ?_
    rcases h4 with h4 | h4
    · exact .inl h4
    · exact .inr ⟨_, h4, by simp⟩
end

/-! ### append of a whole slice, nil let in -/
section
variable {P : Program} (w : World)
theorem run_appv_nil (base : Nat) (t ty e : TypeId) (i : TypeInfo) (size : Nat) (ht : P.underlying t = some (.slice e)) (hi : P.info? e = some i)
    (v : Value) (n : Nat) (xs : List Value) (hown : w.ownsRow base e size v n xs) (c : Nat) : (Builtin.append_ #[t, t] ty #[v, .slice none 0 c]).run P w = .ok v w := by
  rcases hown.2 with ⟨rfl, rfl⟩ | ⟨g, cap, cur, rfl, _, _, hnc, _⟩
  · simp [Builtin.append_, run_underlying ht, sizeOf, typeInfo, hi, Builtin.lenOf, Builtin.firstCells]
  · simp [Builtin.append_, run_underlying ht, sizeOf, typeInfo, hi, Builtin.lenOf, Builtin.firstCells, hnc, storeCells]
theorem run_appv (base : Nat) (t ty e : TypeId) {z : Value} {size bytes : Nat} (ei : Elem P t e z size bytes)
    (v : Value) (n : Nat) (xs : List Value) (hown : w.ownsRow base e size v n xs)
    (ok : Nat → Prop) (A : Option Addr) (m c : Nat) (news : List Value) (hr : Rd w ok size A m news) (h1 : ∀ u ∈ news, u.oneCell' = true)
    (h63 : n + m ≤ maxLen) (hbytes : (n + m) * bytes ≤ 140737488355328) (hbase : base ≤ w.heap.size) :
    ∃ v' w', (Builtin.append_ #[t, t] ty #[v, .slice A m c]).run P w = .ok v' w' ∧ w'.ownsRow base e size v' (n + m) (xs ++ news) ∧ Kp (fun g => v.ownBlock = some g) w w' ∧ OwnAt w v v' := by
  obtain ⟨i, hi, hz, hsz, hby⟩ := info_parts ei.info
  rcases A with _ | ad
  · have hm : m = 0 := by
      rcases Nat.eq_zero_or_pos m with h0 | h0
      · exact h0
      · obtain ⟨ad, h, _⟩ := hr.2 h0
        cases h
    subst hm
    have hn : news = [] := List.eq_nil_of_length_eq_zero (by simpa using hr.1)
    subst hn
    exact ⟨v, w, run_appv_nil w base t ty e i size ei.ht hi v n xs hown c, by simpa using hown, Kp.refl _ _, OwnAt.refl _ _⟩
  · have hcells : ∀ j u, news[j]? = some u → w.cell? (ad.add j) = some u := by
      intro j u hu
      rcases Nat.eq_zero_or_pos m with h0 | h0
      · subst h0
        have hn : news = [] := List.eq_nil_of_length_eq_zero (by simpa using hr.1)
        subst hn
        simp at hu
      · obtain ⟨ad', h, _, hc⟩ := hr.2 h0
        injection h with h
        subst h
        exact hc j u hu
    obtain ⟨v', w', hrun, h2, h3, _, h5⟩ := run_append_own_at (P := P) w base t ty e i z size bytes ei.ht hi hz hsz hby ei.zs ei.pos v n xs hown ad m c news hr.1 hcells h1 h63 hbytes hbase
    refine ⟨v', w', hrun, h2, Kp.of_row h3, ?_⟩
    rcases h5 with h5 | h5
    · exact .inl h5
    · exact .inr ⟨_, h5, Nat.le_refl _⟩
theorem wpList_appv {ops : Array Oper} {rest : List Oper} {o : Oper} {a : Act} {Q : Exit → Act → World → Prop} (hgd : o.guard = none) (s x : Operand) (t e : TypeId)
    (ho : o.op = .call { callee := .builtin .append, args := #[s, x], argTypes := #[t, t] }) {z : Value} {size bytes : Nat} (ei : Elem P t e z size bytes)
    (base : Nat) (v : Value) (n : Nat) (xs : List Value) (hown : w.ownsRow base e size v n xs) (hs : a.eval s = v)
    (ok : Nat → Prop) (A : Option Addr) (m c : Nat) (news : List Value) (hr : Rd w ok size A m news) (hx : a.eval x = .slice A m c) (h1 : ∀ u ∈ news, u.oneCell' = true)
    (h63 : n + m ≤ maxLen) (hbytes : (n + m) * bytes ≤ 140737488355328) (hbase : base ≤ w.heap.size)
    (h : ∀ v' w', w'.ownsRow base e size v' (n + m) (xs ++ news) → Kp (fun g => v.ownBlock = some g) w w' → OwnAt w v v' → wpList P ops Q rest (a.put o.dst v') w') : wpList P ops Q (o :: rest) a w := by
  obtain ⟨v', w', hrun, h2, h3, h4⟩ := run_appv (P := P) w base t o.type e ei v n xs hown ok A m c news hr h1 h63 hbytes hbase
  refine wpList_plain hgd fun K hK => ?_
  unfold Oper.wp execOp
  simp only [ho, resolve, invoke, builtin, Sem.run_bind, Sem.run_pure, Result.andThen_ok, List.map_toArray, List.map_cons, List.map_nil, hs, hx, hrun]
  exact hK _ _ (h v' w' h2 h3 h4)
end

/-! ### A row of the call's own: read, cut, stored into -/
section
variable {w : World} {base e size n cap : Nat} {xs : List Value} {v : Value} {a : Option Addr}
theorem own_read (h : w.ownsRow base e size v n xs) : ∃ A c, v = .slice A n c ∧ n ≤ c ∧ Rd w (fun k => v.ownBlock = some k) size A n xs := by
  rcases h.2 with ⟨rfl, rfl⟩ | ⟨g, cap, cur, rfl, _, _, hnc, _⟩
  · have hx : xs = [] := List.eq_nil_of_length_eq_zero (by have := h.1; simpa using this)
    subst hx
    exact ⟨none, 0, rfl, Nat.le_refl _, Rd.nil_⟩
  · exact ⟨_, _, rfl, hnc, Rd.of_own h⟩
theorem own_slice (h : w.ownsRow base e size (.slice a n cap) n xs) : Rd w (fun k => (Value.slice a n cap).ownBlock = some k) size a n xs := Rd.of_own h
theorem own_cap (h : w.ownsRow base e size (.slice a n cap) n xs) : n ≤ cap := by
  obtain ⟨A, c, he, hc, _⟩ := own_read h
  injection he with _ _ e3
  omega
theorem own_take (h : w.ownsRow base e size (.slice a n cap) n xs) {k : Nat} (hk : k ≤ n) (ha : a ≠ none) : w.ownsRow base e size (.slice a k cap) k (xs.take (k * size)) := by
  refine ⟨by rw [List.length_take, h.1]; exact Nat.min_eq_left (Nat.mul_le_mul_right _ hk), ?_⟩
  rcases h.2 with ⟨he, _⟩ | ⟨g, cap', cur, he, hg, hh, hnc, hm, hs, ht⟩
  · injection he with e1 e2 e3
    exact absurd e1 ha
  · injection he with e1 e2 e3
    subst e1 e3
    refine .inr ⟨g, cap, cur, rfl, hg, hh, by omega, hm, hs, ?_⟩
    rw [← ht, List.take_take, Nat.min_eq_left (Nat.mul_le_mul_right _ hk)]
theorem own_lit (w : World) (cs : Array Value) (n : Nat) (hm : n ≤ maxLen) (hs : cs.size = n * size) (hb : base ≤ w.heap.size) :
    (w.alloc (.cells cs e)).ownsRow base e size (.slice (some ⟨w.heap.size, 0, none⟩) n n) n cs.toList := World.ownsRow_lit w cs n hb hm hs
theorem own_full (w : World) (z : Array Value) (n : Nat) (hm : n ≤ maxLen) (hb : base ≤ w.heap.size) :
    (w.alloc (.cells (madeCells z (n * size)) e)).ownsRow base e size (.slice (some ⟨w.heap.size, 0, none⟩) n n) n (madeCells z (n * size)).toList := World.ownsRow_lit w _ n hb hm (mk_size _ _)
/-- It lies from another base on, too. -/
theorem own_base (h : w.ownsRow base e size v n xs) {base' : Nat} (hb : ∀ g, v.ownBlock = some g → base' ≤ g) : w.ownsRow base' e size v n xs := by
  refine ⟨h.1, ?_⟩
  rcases h.2 with hn | ⟨g, cap, cur, rfl, _, r⟩
  · exact .inl hn
  · exact .inr ⟨g, cap, cur, rfl, hb g rfl, r⟩
theorem own_kp {w' : World} {S : Nat → Prop} (h : w.ownsRow base e size v n xs) (k : Kp S w w') (hn : ∀ g, v.ownBlock = some g → ¬ S g) : w'.ownsRow base e size v n xs := by
  refine ⟨h.1, ?_⟩
  rcases h.2 with h0 | ⟨g, cap, cur, rfl, hb, hh, r⟩
  · exact .inl h0
  · exact .inr ⟨g, cap, cur, rfl, hb, (k.block g (Array.getElem?_eq_some_iff.1 hh).1 (hn g rfl)).trans hh, r⟩
theorem own_nw {w' : World} (h : w.ownsRow base e size v n xs) (k : Nw w w') : w'.ownsRow base e size v n xs := own_kp h k fun _ _ e => e
theorem own_lt (h : w.ownsRow base e size v n xs) {g : Nat} (hg : v.ownBlock = some g) : g < w.heap.size := (h.lt g hg).2
end

theorem own_byte (w : World) (e base : Nat) (x : Int) (b : UInt8) (hx : x = (b.toNat : Int)) (hb : base ≤ w.heap.size) :
    (w.alloc (.cells #[.int .u8 x] e)).ownsRow base e 1 (.slice (some ⟨w.heap.size, 0, none⟩) 1 1) 1 (bys [b]) := by
  subst hx
  exact own_lit (size := 1) w #[bv b] 1 (by simp [maxLen]) rfl hb

/-! ### copy onto a row of the call's own -/
section
variable {P : Program} (w : World)
theorem run_copyv (base : Nat) (t ty e : TypeId) {z : Value} {size bytes : Nat} (ei : Elem P t e z size bytes)
    (g n cap : Nat) (xs : List Value) (hown : w.ownsRow base e size (.slice (some ⟨g, 0, none⟩) n cap) n xs)
    (ok : Nat → Prop) (A : Option Addr) (m c : Nat) (news : List Value) (hr : Rd w ok size A m news) (h1 : ∀ u ∈ news, u.oneCell' = true) (hmn : m ≤ n) :
    ∃ w', (Builtin.copy_ #[t, t] ty #[.slice (some ⟨g, 0, none⟩) n cap, .slice A m c]).run P w = .ok (goInt m) w' ∧
      w'.ownsRow base e size (.slice (some ⟨g, 0, none⟩) n cap) n (news ++ xs.drop (m * size)) ∧ Kp (fun k => k = g) w w' := by
  obtain ⟨i, hi, hz, hsz, hby⟩ := info_parts ei.info
  have hx := hown.1
  rcases hown.2 with ⟨he, _⟩ | ⟨g', cap', cur, he, hb, hg, hnc, hcm, hcs, htake⟩
  · simp at he
  simp only [Value.slice.injEq, Option.some.injEq, Addr.mk.injEq, and_true, true_and] at he
  obtain ⟨rfl, rfl⟩ := he
  have hmin : Nat.min m n = m := Nat.min_eq_left hmn
  have hfc : (Builtin.firstCells i.size m (.slice A m c)).run P w = .ok news.toArray w := by
    rcases A with _ | ad
    · have hm : m = 0 := by
        rcases Nat.eq_zero_or_pos m with h0 | h0
        · exact h0
        · obtain ⟨ad, h, _⟩ := hr.2 h0
          cases h
      subst hm
      have hn : news = [] := List.eq_nil_of_length_eq_zero (by simpa using hr.1)
      subst hn
      simp [Builtin.firstCells]
    · have hcells : ∀ j u, news[j]? = some u → w.cell? (ad.add j) = some u := by
        intro j u hu
        rcases Nat.eq_zero_or_pos m with h0 | h0
        · subst h0
          have hn : news = [] := List.eq_nil_of_length_eq_zero (by simpa using hr.1)
          subst hn
          simp at hu
        · obtain ⟨ad', h, _, hc⟩ := hr.2 h0
          injection h with h
          subst h
          exact hc j u hu
      exact run_firstCells_some (P := P) w i.size m ad m c news (by rw [hsz]; exact hr.1) hcells
  have hfit : news.length ≤ cur.size := by
    rw [hr.1, hcs]
    exact Nat.mul_le_mul_right _ (by omega)
  have hst := run_storeCells_at P g 0 e news 0 cur w hg (by simpa using hfit) h1
  simp only [Nat.add_zero, List.take_zero, List.nil_append, Nat.zero_add] at hst
  refine ⟨w.setRow g (news ++ cur.toList.drop news.length).toArray, ?_, ?_, ?_⟩
  · simp [Builtin.copy_, run_underlying ei.ht, sizeOf, typeInfo, hi, Builtin.lenOf, hmin, hfc, hst]
  · have hL : news.length = m * i.size := by rw [hr.1, hsz]
    have hlen : (news ++ xs.drop (m * size)).length = n * size := by
      rw [List.length_append, List.length_drop, hx, hr.1]
      have := Nat.mul_le_mul_right size hmn
      omega
    refine ⟨hlen, .inr ⟨g, cap, _, rfl, hb, setRow_heap w g cur _ e (0, 0) hg, hnc, hcm, ?_, ?_⟩⟩
    · simp only [List.size_toArray, List.length_append, List.length_drop, Array.length_toList]
      omega
    · have hms : m * size ≤ n * size := Nat.mul_le_mul_right size hmn
      rw [← htake, hr.1, List.take_append, hr.1, List.take_of_length_le (by rw [hr.1]; exact hms), List.drop_take]
  · exact ⟨rfl, rfl, rfl, by simp, fun k _ hk => setRow_other w g k _ hk⟩
theorem wpList_copyv {ops : Array Oper} {rest : List Oper} {o : Oper} {a : Act} {Q : Exit → Act → World → Prop} (hgd : o.guard = none) (d s : Operand) (t e : TypeId)
    (ho : o.op = .call { callee := .builtin .copy, args := #[d, s], argTypes := #[t, t] }) {z : Value} {size bytes : Nat} (ei : Elem P t e z size bytes)
    (base g n cap : Nat) (xs : List Value) (hown : w.ownsRow base e size (.slice (some ⟨g, 0, none⟩) n cap) n xs) (hd : a.eval d = .slice (some ⟨g, 0, none⟩) n cap)
    (ok : Nat → Prop) (A : Option Addr) (m c : Nat) (news : List Value) (hr : Rd w ok size A m news) (hs : a.eval s = .slice A m c) (h1 : ∀ u ∈ news, u.oneCell' = true) (hmn : m ≤ n)
    (h : ∀ w', w'.ownsRow base e size (.slice (some ⟨g, 0, none⟩) n cap) n (news ++ xs.drop (m * size)) → Kp (fun k => k = g) w w' → wpList P ops Q rest (a.put o.dst (goInt m)) w') : wpList P ops Q (o :: rest) a w := by
  obtain ⟨w', hrun, h2, h3⟩ := run_copyv (P := P) w base t o.type e ei g n cap xs hown ok A m c news hr h1 hmn
  refine wpList_plain hgd fun K hK => ?_
  unfold Oper.wp execOp
  simp only [ho, resolve, invoke, builtin, Sem.run_bind, Sem.run_pure, Result.andThen_ok, List.map_toArray, List.map_cons, List.map_nil, hd, hs, hrun]
  exact hK _ _ (h w' h2 h3)
end

/-! ### string(b) -/
def sb (l : List UInt8) : ByteArray := ⟨l.toArray⟩
theorem foldl_push (l : List UInt8) : ∀ s : ByteArray, (l.map fun b => (b.toNat : Int)).foldl (fun r n => r.push (UInt8.ofNat n.toNat)) s = ⟨s.data ++ l.toArray⟩ := by
  induction l with
  | nil => intro s; simp
  | cons b l ih =>
    intro s
    rw [List.map_cons, List.foldl_cons, ih]
    simp [ByteArray.push]
theorem run_str {P : Program} {w : World} {ok : Nat → Prop} {A : Option Addr} {n : Nat} {l : List UInt8} (h : Rd w ok 1 A n (bys l)) (c : Nat) :
    (Conv.bytesToString (.slice A n c)).run P w = .ok (.string (sb l)) w := by
  have hl : l.length = n := by have := h.len; rwa [bys_len] at this
  rcases A with _ | ad
  · have hn : n = 0 := by
      rcases Nat.eq_zero_or_pos n with h0 | h0
      · exact h0
      · obtain ⟨ad, e, _⟩ := h.2 h0
        cases e
    rw [hn] at hl
    have : l = [] := List.eq_nil_of_length_eq_zero hl
    subst this
    rfl
  · have hc : ∀ j u, (bys l)[j]? = some u → w.cell? (ad.add j) = some u := by
      intro j u hu
      have hj : j < (bys l).length := (List.getElem?_eq_some_iff.1 hu).1
      obtain ⟨ad', e, _, hc⟩ := h.2 (by rw [← hl, ← bys_len]; omega)
      injection e with e
      subst e
      exact hc j u hu
    have hr := run_loadCells_list (P := P) w ad (bys l) hc
    have e : bys l = (l.map fun b => (b.toNat : Int)).map (Value.int .u8) := by simp [bys, bv, List.map_map, Function.comp_def]
    rw [bys_len, hl, e] at hr
    rw [run_bytesToString w ad n c _ hr, foldl_push]
    simp [sb]

theorem run_cstr {P : Program} {src dst e : TypeId} (hs : P.underlying src = some (.slice e)) (he : P.underlying e = some (.int .u8)) (hd : P.underlying dst = some .string)
    {w : World} {ok : Nat → Prop} {A : Option Addr} {n : Nat} {l : List UInt8} (h : Rd w ok 1 A n (bys l)) (c : Nat) :
    (convert src dst (.slice A n c)).run P w = .ok (.string (sb l)) w := (run_convert_bytes_string w src dst e A n c hs he hd).trans (run_str h c)

/-! ### A row that is turned place by place -/
def upd {α : Type} (f : α → α) (l : List α) (k : Nat) : List α := (l.take k).map f ++ l.drop k
section
variable {α : Type} (f : α → α) (l : List α) (k : Nat)
theorem upd_zero : upd f l 0 = l := by simp [upd]
theorem upd_len : (upd f l k).length = l.length := by simp [upd]; omega
theorem upd_get (h : k < l.length) : (upd f l k)[k]? = some l[k] := by
  unfold upd
  rw [List.getElem?_append_right (by simp; omega)]
  simp [h, Nat.min_eq_left (Nat.le_of_lt h)]
theorem upd_set (h : k < l.length) : (upd f l k).set k (f l[k]) = upd f l (k + 1) := by
  have e1 : ((l.take k).map f).length = k := by simp; omega
  unfold upd
  rw [List.set_append_right _ _ (by omega), e1, Nat.sub_self, List.drop_eq_getElem_cons h, List.set_cons_zero, List.take_succ_eq_append_getElem h, List.map_append, List.append_assoc]
  rfl
theorem upd_all (h : l.length ≤ k) : upd f l k = l.map f := by
  unfold upd
  rw [List.take_of_length_le h, List.drop_of_length_le h, List.append_nil]
end
theorem bys_set (l : List UInt8) (k : Nat) (b : UInt8) : (bys l).set k (bv b) = bys (l.set k b) := by simp [bys, List.map_set]
/-- Byte k of a row of one's own. -/
theorem own_byteAt {w : World} {base e g n cap : Nat} {l : List UInt8} (h : w.ownsRow base e 1 (.slice (some ⟨g, 0, none⟩) n cap) n (bys l)) {k : Nat} (hk : k < l.length) {b : UInt8} (hb : l[k]? = some b) :
    w.cell? ⟨g, k, none⟩ = some (.int .u8 (b.toNat : Int)) := by
  have hl := h.1
  rw [bys_len, Nat.mul_one] at hl
  rw [h.cellAt k (by omega), bys, List.getElem?_map, hb]
  rfl

/-- The first k of a row of one's own. -/
theorem own_cut {w : World} {base e g n cap : Nat} {l : List UInt8} (h : w.ownsRow base e 1 (.slice (some ⟨g, 0, none⟩) n cap) n (bys l)) {k : Nat} (hk : k ≤ n) :
    w.ownsRow base e 1 (.slice (some ⟨g, 0, none⟩) k cap) k (bys (l.take k)) := by
  have := own_take h hk (by simp)
  rwa [Nat.mul_one, ← bys_take] at this

end Go.Proofs.YtjgnapjhlhdgfaaDoor
