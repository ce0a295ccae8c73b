/- Records: what bytes are read as. Plain. Records: the program's cursor. Records: the program's cursor: bytes and spans. Records: the program's cursor: spans. -/
import Derived.Test.YtjgnapjhlhdgfaaDoorRi
import Derived.Laws.Rows
import Derived.WalkLawsBesides
import Derived.Test.YtjgnapjhlhdgfaaDoorRqh
set_option linter.unusedVariables false
set_option linter.unusedSimpArgs false
namespace Go.Proofs.YtjgnapjhlhdgfaaDoor
open Go.RowKit

/-- A number at the head, and how many bytes it has. -/
def rdN (xs : List UInt8) : Option (Nat × Nat) :=
  if (rdS xs 0 0).2.2 = 0 ∧ (rdS xs 0 0).1 ≤ 4611686018427387903 then some ((rdS xs 0 0).1, (rdS xs 0 0).2.1) else none
theorem rdN_some {xs : List UInt8} {n k : Nat} (h : rdN xs = some (n, k)) : rdS xs 0 0 = (n, k, 0) ∧ 1 ≤ k ∧ k ≤ xs.length ∧ xs.take k = enc n ∧ n ≤ 4611686018427387903 := by
  unfold rdN at h
  split at h
  · rename_i hc
    simp only [Option.some.injEq, Prod.mk.injEq] at h
    have e : rdS xs 0 0 = (n, k, 0) := by
      obtain ⟨x, y, z, hx⟩ : ∃ x y z, rdS xs 0 0 = (x, y, z) := ⟨_, _, _, rfl⟩
      rw [hx] at h hc ⊢
      simp only at h hc
      rw [h.1, h.2, hc.1]
    have hb := rdS_back e
    exact ⟨e, hb.1, hb.2.1, hb.2.2.1, by rw [← h.1]; exact hc.2⟩
  · cases h
theorem rdN_enc {n : Nat} (t : List UInt8) (h : n ≤ 4611686018427387903) : rdN (enc n ++ t) = some (n, siz n) := by
  have e := rdS_enc t (n := n) (by omega)
  unfold rdN
  rw [e, if_pos ⟨rfl, h⟩]
theorem rdN_none {xs : List UInt8} (h : rdN xs = none) : (rdS xs 0 0).2.2 ≠ 0 ∨ 4611686018427387903 < (rdS xs 0 0).1 := by
  unfold rdN at h
  split at h
  · cases h
  · rename_i hc
    by_cases h1 : (rdS xs 0 0).2.2 = 0
    · exact .inr (by have : ¬ _ := fun h2 => hc ⟨h1, h2⟩; omega)
    · exact .inl h1

/-- So many spans. -/
def rdP : Nat → List UInt8 → Option (List (Int × Int) × List UInt8)
  | 0, xs => some ([], xs)
  | n + 1, xs =>
    match rdN xs with
    | none => none
    | some (f, k) =>
      match rdN (xs.drop k) with
      | none => none
      | some (m, k2) =>
        match rdP n ((xs.drop k).drop k2) with
        | none => none
        | some (l, r) => some (((f : Int), (f : Int) + (m : Int)) :: l, r)

/-- A record, its lists, and the bytes that are left. -/
structure RSt where
  a : Rc
  sp : List (Int × Int)
  dt : List UInt8
  r : List UInt8
def Rc.setN (a : Rc) (i : Nat) (x : Int) : Rc :=
  match i with
  | 0 => { a with o := x } | 1 => { a with n := x } | 2 => { a with p := x } | 3 => { a with v := x } | 4 => { a with f := x } | 5 => { a with r := x } | 6 => { a with z := x } | 7 => { a with h := x } | _ => a
def rdF (s : RSt) (f : Nat) : Option RSt :=
  match rdN s.r with
  | none => none
  | some (n, k) =>
    if f = 9 then (if n ≤ (s.r.drop k).length then some ⟨{ s.a with dn := n }, s.sp, (s.r.drop k).take n, (s.r.drop k).drop n⟩ else none)
    else if f = 8 then
      (if n ≤ (s.r.drop k).length then
        match rdP n (s.r.drop k) with
        | none => none
        | some (l, r) => some ⟨{ s.a with sn := n }, l, s.dt, r⟩
      else none)
    else some ⟨s.a.setN f n, s.sp, s.dt, s.r.drop k⟩
def rdL : List Nat → RSt → Option RSt
  | [], s => some s
  | f :: l, s => (rdF s f).bind (rdL l)
def zeroR : Rc := ⟨0, 0, 0, 0, 0, 0, 0, 0, 0, none, 0, 0, none, 0, 0⟩
def rd0 (b : UInt8) (r : List UInt8) : RSt := ⟨{ zeroR with k := (b.toNat : Int) }, [], [], r⟩
def rdR (xs : List UInt8) : Option RSt :=
  match xs with
  | [] => none
  | b :: r =>
    match rdL (fds (b.toNat : Int)) (rd0 b r) with
    | none => none
    | some s => if s.r = [] ∧ okR s.a s.sp = true then some s else none
/-- What Read answers: the record and its error's number. -/
def rdO (xs : List UInt8) : RSt × Int :=
  if xs.length > 131072 then (⟨zeroR, [], [], []⟩, 2) else
    match rdR xs with
    | none => (⟨zeroR, [], [], []⟩, 61)
    | some s => (s, 0)

end Go.Proofs.YtjgnapjhlhdgfaaDoor

namespace Go.Proofs.YtjgnapjhlhdgfaaDoor
open Go.RowKit

/-- Why a cursor gives up. -/
def brkV : Value := .iface 94 (.agg #[])
def brk : Ending := .panicked [{ v := brkV, recovered := false }]

/-- A cursor that stands in front of these bytes. -/
def Cur (w : World) (bc : Nat) (ok : Nat → Prop) (xs : List UInt8) : Prop :=
  ∃ (A : Option Addr) (c : Nat), w.heap[bc]? = some (.cells #[.slice A xs.length c] 98 (0, 0)) ∧ Rd w ok 1 A xs.length (bys xs) ∧ xs.length ≤ c ∧ xs.length ≤ 131072 ∧ ∀ k, ok k → k ≠ bc
section
variable {w w' : World} {bc : Nat} {ok : Nat → Prop} {xs : List UInt8}
theorem Cur.kp {S : Nat → Prop} (h : Cur w bc ok xs) (k : Kp S w w') (h1 : ¬ S bc) (h2 : ∀ g, ok g → ¬ S g) : Cur w' bc ok xs := by
  obtain ⟨A, c, hb, hr, hc, hn, hk⟩ := h
  exact ⟨A, c, (k.block bc (Array.getElem?_eq_some_iff.1 hb).1 h1).trans hb, hr.kp k h2, hc, hn, hk⟩
theorem Cur.nw (h : Cur w bc ok xs) (k : Nw w w') : Cur w' bc ok xs := h.kp k (fun e => e) fun _ _ e => e
theorem Cur.lt (h : Cur w bc ok xs) : bc < w.heap.size := by
  obtain ⟨A, c, hb, _⟩ := h
  exact (Array.getElem?_eq_some_iff.1 hb).1
theorem Cur.frz (h : Cur w bc ok xs) : w.frozen? ⟨bc, 0, none⟩ = false := by
  obtain ⟨A, c, hb, _⟩ := h
  simp [World.frozen?, hb]
/-- It goes on. -/
theorem Cur.set {A : Option Addr} {k c : Nat} (h : Cur w bc ok xs) (hk : k ≤ xs.length) (hr : Rd w ok 1 A (xs.length - k) (bys (xs.drop k))) (hc : xs.length - k ≤ c) :
    Cur (w.setCell ⟨bc, 0, none⟩ (.slice A (xs.length - k) c)) bc ok (xs.drop k) ∧ Kp (fun g => g = bc) w (w.setCell ⟨bc, 0, none⟩ (.slice A (xs.length - k) c)) := by
  obtain ⟨A0, c0, hb, hr0, hc0, hn0, hk0⟩ := h
  have hkp : Kp (fun g => g = bc) w (w.setCell ⟨bc, 0, none⟩ (.slice A (xs.length - k) c)) := (Kp.refl (fun g => g = bc) w).setCell (p := ⟨bc, 0, none⟩) (fun _ => rfl) _
  have hl : (xs.drop k).length = xs.length - k := List.length_drop
  refine ⟨⟨A, c, ?_, ?_, ?_, ?_, hk0⟩, hkp⟩
  · rw [hl]
    exact heap_setCell_same w bc 0 _ _ _ hb
  · rw [hl]
    exact hr.kp hkp hk0
  · rw [hl]; exact hc
  · rw [hl]; omega
end

theorem rdV_tup {r : Nat × Nat × Nat} {x k e : Nat} (h : r = (x, k, e)) : rdV r = .tuple #[.int .u64 (x : Int), .int .i64 (k : Int), .int .i64 (e : Int)] := by rw [h]; rfl

set_option maxRecDepth 100000 in
set_option maxHeartbeats 1600000 in
theorem curnum_ok (bc : Nat) (ok : Nat → Prop) (xs : List UInt8) (m k : Nat) (w : World) (hcur : Cur w bc ok xs) (h : rdN xs = some (m, k)) :
    Calls Tryd.prog 57 #[.pointer (some ⟨bc, 0, none⟩)] w fun e w' => e = .returned (.int .i64 (m : Int)) ∧ Cur w' bc ok (xs.drop k) ∧ Kp (fun g => g = bc) w w' := by
  obtain ⟨hrd, hk1, hk2, _, hm⟩ := rdN_some h
  have hcur' := hcur
  have hfz := hcur.frz
  obtain ⟨A, c, hb, hr, hc, hn, hk0⟩ := hcur
  have hcl : w.cell? ⟨bc, 0, none⟩ = some (.slice A xs.length c) := cell_of_row w bc 0 _ _ _ hb
  have HR := Lib.hid (read_any A xs.length c ok xs w hr (by omega))
  rw [rdV_tup hrd] at HR
  have hcut := hr.cut1 (k := k) (cap := c) hk2 hc
  rw [← bys_drop] at hcut
  have hkc : (k : Int) ≤ (xs.length : Int) := by omega
  have hmz : decide ((4611686018427387903 : Int) < (m : Int)) = false := by simp; omega
  by_cases hck : c = k
  · rw [if_pos hck] at hcut
    have hcs := hcur'.set (A := A) (c := 0) hk2 hcut (by omega)
    have e0 : xs.length - k = 0 := by omega
    rw [e0] at hcs
    have HCUT := Lib.hid hcs
    subst hck
    clear hcs e0
    clear hrd h hcur' hr hb hcut
    go_enter Tryd.func57, Tryd.ntmps57
    go_wp2_with (go_at_call 77; refine HR.out.mono ?_; rintro e w' ⟨rfl, rfl⟩)
    go_ret
    exact ⟨rfl, HCUT.out.1, HCUT.out.2⟩
  · rw [if_neg hck] at hcut
    have HCUT := Lib.hid (hcur'.set (A := A.map (fun a => a.add k)) (c := c - k) hk2 hcut (by omega))
    clear hrd h hcur' hr hb hcut
    go_enter Tryd.func57, Tryd.ntmps57
    go_wp2_with (go_at_call 77; refine HR.out.mono ?_; rintro e w' ⟨rfl, rfl⟩)
    go_ret
    exact ⟨rfl, HCUT.out.1, HCUT.out.2⟩

set_option maxRecDepth 100000 in
set_option maxHeartbeats 1600000 in
theorem curnum_bad (bc : Nat) (ok : Nat → Prop) (xs : List UInt8) (w : World) (hcur : Cur w bc ok xs) (h : rdN xs = none) :
    Calls Tryd.prog 57 #[.pointer (some ⟨bc, 0, none⟩)] w fun e w' => e = brk ∧ w = w' := by
  have hno := rdN_none h
  obtain ⟨A, c, hb, hr, hc, hn, hk0⟩ := hcur
  have hcl : w.cell? ⟨bc, 0, none⟩ = some (.slice A xs.length c) := cell_of_row w bc 0 _ _ _ hb
  have HR := Lib.hid (read_any A xs.length c ok xs w hr (by omega))
  obtain ⟨m, k, e, hrd⟩ : ∃ m k e, rdS xs 0 0 = (m, k, e) := ⟨_, _, _, rfl⟩
  rw [rdV_tup hrd] at HR
  rw [hrd] at hno
  simp only at hno
  have hno' : ((e : Int) != 0) = true ∨ (((e : Int) != 0) = false ∧ (4611686018427387903 : Int) < (m : Int)) := by
    by_cases he : e = 0
    · rcases hno with h1 | h1
      · exact absurd he h1
      · exact .inr ⟨by rw [he]; rfl, by omega⟩
    · exact .inl (by rw [bne_iff_ne]; omega)
  clear hrd h hr hb hno
  rcases hno' with he | ⟨he, hm⟩
  all_goals
    go_enter Tryd.func57, Tryd.ntmps57
    go_wp2_with (go_at_call 77; refine HR.out.mono ?_; rintro e w' ⟨rfl, rfl⟩)
    exact ⟨rfl, rfl, rfl⟩

end Go.Proofs.YtjgnapjhlhdgfaaDoor

namespace Go.Proofs.YtjgnapjhlhdgfaaDoor
open Go.RowKit

theorem Kp.nil_nw {w w' : World} {n c : Nat} (h : Kp (fun g => (Value.slice none n c).ownBlock = some g) w w') : Nw w w' := h.mono fun g _ e => by simp [Value.ownBlock] at e

set_option maxRecDepth 100000 in
set_option maxHeartbeats 1600000 in
theorem curbytes_ok (bc : Nat) (ok : Nat → Prop) (xs : List UInt8) (m k : Nat) (w : World) (hcur : Cur w bc ok xs) (h : rdN xs = some (m, k)) (hm : m ≤ (xs.drop k).length) :
    Calls Tryd.prog 55 #[.pointer (some ⟨bc, 0, none⟩)] w fun e w' => ∃ v, e = .returned v ∧ w'.ownsRow w.heap.size 5 1 v m (bys ((xs.drop k).take m)) ∧
      Cur w' bc ok ((xs.drop k).drop m) ∧ Kp (fun g => g = bc) w w' := by
  have HN := Lib.hid (curnum_ok bc ok xs m k w hcur h)
  have eb := Tryd.elU8
  have hbl := hcur.lt
  have hnil : ∀ W : World, W.ownsRow W.heap.size 5 1 (.slice none 0 0) 0 (bys []) := fun W => World.ownsRow_nil _ _ _ _
  have HNIL := Lib.hid hnil
  clear hcur h hnil
  generalize xs.drop k = ys at *
  go_enter Tryd.func55, Tryd.ntmps55
  go_wp2_with fail
  refine HN.out.mono ?_
  rintro e w1 ⟨rfl, hcur1, hk1⟩
  have hfz := hcur1.frz
  have hcur1' := hcur1
  have hbl1 := hcur1.lt
  obtain ⟨A, c, hb, hr, hc, hn, hk0⟩ := hcur1
  have hcl : w1.cell? ⟨bc, 0, none⟩ = some (.slice A ys.length c) := cell_of_row w1 bc 0 _ _ _ hb
  have hmz : decide ((ys.length : Int) < (m : Int)) = false := by simp; omega
  have hmc : (m : Int) ≤ (c : Int) := by omega
  have hmc2 : (m : Int) ≤ (ys.length : Int) := by omega
  have htk := hr.take hm
  rw [Nat.mul_one, ← bys_take] at htk
  have HTK := Lib.hid htk
  have HCUR := Lib.hid hcur1'
  have hsz1 := hk1.size
  have hcut := hr.cut1 (k := m) (cap := c) hm hc
  rw [← bys_drop] at hcut
  clear htk hr hb hcur1'
  by_cases hck : c = m
  · rw [if_pos hck] at hcut
    have e0 : ys.length - m = 0 := by omega
    have HCUT := Lib.hid hcut
    clear hcut
    subst hck
    go_wp2_with (at_builtin; refine wpList_appv _ rfl (.const (.slice none 0 0)) (.tmp 21) 22 5 rfl eb w1.heap.size _ _ _ (HNIL.out w1) rfl _ A _ _ _ HTK.out rfl (bys_one _) (by simp only [maxLen]; omega) (by omega) (Nat.le_refl _) ?_; intro v2 w2 ho2 hk2 ha2; have hnw2 := Kp.nil_nw hk2; have hcl2 := (Kp.cell hnw2 (World.block_lt_of_cell? _ _ hcl) (fun e => e)).trans hcl; have hcu2 := HCUR.out.nw hnw2; have hfz2 := hcu2.frz)
    have hcs := hcu2.set (A := A) (c := 0) hm (HCUT.out.nw hnw2) (by omega)
    rw [e0] at hcs
    have HCS := Lib.hid hcs
    clear hcs hcu2
    go_ret
    refine ⟨v2, rfl, ?_, HCS.out.1, (hk1.nw hnw2).trans HCS.out.2 fun _ _ e => e⟩
    have ho3 := own_kp ho2 HCS.out.2 (fun g hg e => by have := own_ge ho2 hg; omega)
    rw [Nat.zero_add] at ho3
    exact own_base ho3 (fun g hg => by have := own_ge ho3 hg; omega)
  · rw [if_neg hck] at hcut
    have HCUT := Lib.hid hcut
    clear hcut
    go_wp2_with (at_builtin; refine wpList_appv _ rfl (.const (.slice none 0 0)) (.tmp 21) 22 5 rfl eb w1.heap.size _ _ _ (HNIL.out w1) rfl _ A _ _ _ HTK.out rfl (bys_one _) (by simp only [maxLen]; omega) (by omega) (Nat.le_refl _) ?_; intro v2 w2 ho2 hk2 ha2; have hnw2 := Kp.nil_nw hk2; have hcl2 := (Kp.cell hnw2 (World.block_lt_of_cell? _ _ hcl) (fun e => e)).trans hcl; have hcu2 := HCUR.out.nw hnw2; have hfz2 := hcu2.frz)
    have hcs := hcu2.set (A := A.map (fun a => a.add m)) (c := c - m) hm (HCUT.out.nw hnw2) (by omega)
    have HCS := Lib.hid hcs
    clear hcs hcu2
    go_ret
    refine ⟨v2, rfl, ?_, HCS.out.1, (hk1.nw hnw2).trans HCS.out.2 fun _ _ e => e⟩
    have ho3 := own_kp ho2 HCS.out.2 (fun g hg e => by have := own_ge ho2 hg; omega)
    rw [Nat.zero_add] at ho3
    exact own_base ho3 (fun g hg => by have := own_ge ho3 hg; omega)

set_option maxRecDepth 100000 in
set_option maxHeartbeats 1600000 in
theorem curbytes_bad (bc : Nat) (ok : Nat → Prop) (xs : List UInt8) (w : World) (hcur : Cur w bc ok xs) (h : ∀ m k, rdN xs = some (m, k) → (xs.drop k).length < m) :
    Calls Tryd.prog 55 #[.pointer (some ⟨bc, 0, none⟩)] w fun e w' => e = brk ∧ Kp (fun g => g = bc) w w' := by
  cases hq : rdN xs with
  | none =>
    have HN := Lib.hid (curnum_bad bc ok xs w hcur hq)
    clear hq h
    go_enter Tryd.func55, Tryd.ntmps55
    go_wp2_with fail
    refine HN.out.mono ?_
    rintro e w1 ⟨rfl, rfl⟩
    unfold brk
    go_wp2_with fail
    exact ⟨rfl, rfl, Kp.refl _ _⟩
  | some r =>
    obtain ⟨m, k⟩ := r
    have HN := Lib.hid (curnum_ok bc ok xs m k w hcur hq)
    have hlt := h m k hq
    clear hq h hcur
    generalize xs.drop k = ys at *
    go_enter Tryd.func55, Tryd.ntmps55
    go_wp2_with fail
    refine HN.out.mono ?_
    rintro e w1 ⟨rfl, hcur1, hk1⟩
    obtain ⟨A, c, hb, hr, hc, hn, hk0⟩ := hcur1
    have hcl : w1.cell? ⟨bc, 0, none⟩ = some (.slice A ys.length c) := cell_of_row w1 bc 0 _ _ _ hb
    have hmz : decide ((ys.length : Int) < (m : Int)) = true := by simp; omega
    clear hb hr
    go_wp2_with fail
    exact ⟨rfl, rfl, hk1⟩

end Go.Proofs.YtjgnapjhlhdgfaaDoor

namespace Go.Proofs.YtjgnapjhlhdgfaaDoor
open Go.RowKit

/-- What comes of reading spans. -/
def SpansPost (w : World) (bc : Nat) (ok : Nat → Prop) (R : Option (List (Int × Int) × List UInt8)) (e : Ending) (w' : World) : Prop :=
  (∃ l r v, R = some (l, r) ∧ e = .returned v ∧ w'.ownsRow w.heap.size 56 2 v l.length (sps l) ∧ Cur w' bc ok r ∧ Kp (fun g => g = bc) w w') ∨
  (R = none ∧ e = brk ∧ Kp (fun g => g = bc) w w')
theorem rdP_len : ∀ (m : Nat) {xs : List UInt8} {l : List (Int × Int)} {r : List UInt8}, rdP m xs = some (l, r) → l.length = m
  | 0, xs, l, r, h => by
    simp only [rdP, Option.some.injEq, Prod.mk.injEq] at h
    rw [← h.1]; rfl
  | m + 1, xs, l, r, h => by
    simp only [rdP] at h
    split at h
    · cases h
    · split at h
      · cases h
      · split at h
        · cases h
        · rename_i l' r' hr
          simp only [Option.some.injEq, Prod.mk.injEq] at h
          rw [← h.1, List.length_cons, rdP_len m hr]
/-- q of m spans have been read. -/
def SpInv (m q : Nat) (pre : List (Int × Int)) (zs : List UInt8) (R : Option (List (Int × Int) × List UInt8)) : Prop := (rdP (m - q) zs).map (fun p => (pre ++ p.1, p.2)) = R
theorem SpInv.done {m : Nat} {pre : List (Int × Int)} {zs : List UInt8} {R : Option (List (Int × Int) × List UInt8)} (h : SpInv m m pre zs R) : R = some (pre, zs) := by
  unfold SpInv at h
  rw [Nat.sub_self] at h
  simp only [rdP, Option.map_some, List.append_nil] at h
  exact h.symm
theorem SpInv.bad1 {m q : Nat} {pre : List (Int × Int)} {zs : List UInt8} {R : Option (List (Int × Int) × List UInt8)} (h : SpInv m q pre zs R) (hq : q < m) (hn : rdN zs = none) : R = none := by
  unfold SpInv at h
  rw [show m - q = (m - (q + 1)) + 1 from by omega] at h
  simp only [rdP, hn, Option.map_none] at h
  exact h.symm
theorem SpInv.bad2 {m q : Nat} {pre : List (Int × Int)} {zs : List UInt8} {R : Option (List (Int × Int) × List UInt8)} {f k : Nat} (h : SpInv m q pre zs R) (hq : q < m) (hn : rdN zs = some (f, k)) (hn2 : rdN (zs.drop k) = none) : R = none := by
  unfold SpInv at h
  rw [show m - q = (m - (q + 1)) + 1 from by omega] at h
  simp only [rdP, hn, hn2, Option.map_none] at h
  exact h.symm
theorem SpInv.step {m q : Nat} {pre : List (Int × Int)} {zs : List UInt8} {R : Option (List (Int × Int) × List UInt8)} {f k n k2 : Nat} (h : SpInv m q pre zs R) (hq : q < m) (hn : rdN zs = some (f, k)) (hn2 : rdN (zs.drop k) = some (n, k2)) :
    SpInv m (q + 1) (pre ++ [((f : Int), (f : Int) + (n : Int))]) ((zs.drop k).drop k2) R := by
  unfold SpInv at h ⊢
  rw [show m - q = (m - (q + 1)) + 1 from by omega] at h
  simp only [rdP, hn, hn2] at h
  rw [← h]
  cases rdP (m - (q + 1)) ((zs.drop k).drop k2) with
  | none => rfl
  | some p => simp

set_option maxRecDepth 100000 in
set_option maxHeartbeats 3200000 in
theorem curspans_any (bc : Nat) (ok : Nat → Prop) (xs : List UInt8) (m k : Nat) (w : World) (hcur : Cur w bc ok xs) (h : rdN xs = some (m, k)) (hm : m ≤ (xs.drop k).length) (hok : ∀ g, ok g → g < w.heap.size) :
    Calls Tryd.prog 56 #[.pointer (some ⟨bc, 0, none⟩)] w (SpansPost w bc ok (rdP m (xs.drop k))) := by
  have HN := Lib.hid (curnum_ok bc ok xs m k w hcur h)
  have es := Tryd.elSp
  have hbl := hcur.lt
  have hxl : xs.length ≤ 131072 := by obtain ⟨_, _, _, _, _, h, _⟩ := hcur; exact h
  clear hcur h
  have hyl : (xs.drop k).length ≤ 131072 := by rw [List.length_drop]; omega
  generalize xs.drop k = ys at *
  obtain ⟨R, hR⟩ : ∃ R, R = rdP m ys := ⟨_, rfl⟩
  rw [← hR]
  have hI : SpInv m 0 [] ys R := by
    unfold SpInv
    rw [hR, Nat.sub_zero]
    cases rdP m ys <;> simp
  have HI := Lib.hid hI
  clear hI hR
  go_enter Tryd.func56, Tryd.ntmps56
  go_wp2_with fail
  refine HN.out.mono ?_
  rintro e w1 ⟨rfl, hcur1, hk1⟩
  have hcur1' := hcur1
  obtain ⟨A, c, hb, hr, hc, hn, hk0⟩ := hcur1
  have hcl : w1.cell? ⟨bc, 0, none⟩ = some (.slice A ys.length c) := cell_of_row w1 bc 0 _ _ _ hb
  have hmz : decide ((ys.length : Int) < (m : Int)) = false := by simp; omega
  have hsz1 := hk1.size
  clear hb hr
  go_wp2_with fail
  clear hcl
  go_loopw [4, 18] (fun v i wr => ∃ (q : Nat) (pre : List (Int × Int)) (zs : List UInt8), q ≤ m ∧ i = .int .i64 q ∧ pre.length = q ∧ wr.ownsRow w1.heap.size 56 2 v q (sps pre) ∧ Cur wr bc ok zs ∧ Kp (fun g => g = bc) w1 wr ∧ Hid (SpInv m q pre zs R)) (fun _ i _ => m - (intOf i).toNat)
  case atStart => exact ⟨0, [], ys, by omega, rfl, rfl, World.ownsRow_nil _ _ _ _, hcur1', Kp.refl _ _, HI⟩
  case round =>
    obtain ⟨q, pre, zs, hq, rfl, hpl, hov, hcz, hkz, hinv⟩ := hrel
    have hszr := hkz.size
    by_cases hlt : q < m
    · have h1 : (q : Int) < (m : Int) := by omega
      cases hn1 : rdN zs with
      | none =>
        have hRn := hinv.out.bad1 hlt hn1
        subst hRn
        have HB := Lib.hid (curnum_bad bc ok zs wr hcz hn1)
        clear hn1
        go_wp2_with fail
        refine HB.out.mono ?_
        rintro e w3 ⟨rfl, rfl⟩
        unfold brk
        go_wp2_with fail
        exact ⟨rfl, .inr ⟨rfl, rfl, hk1.trans hkz fun _ _ e => e⟩⟩
      | some p1 =>
        obtain ⟨f, k1⟩ := p1
        have HN1 := Lib.hid (curnum_ok bc ok zs f k1 wr hcz hn1)
        have hfm := (rdN_some hn1).2.2.2.2
        cases hn2 : rdN (zs.drop k1) with
        | none =>
          have hRn := hinv.out.bad2 hlt hn1 hn2
          subst hRn
          have HN1B := Lib.hid hn2
          clear hn1 hn2
          go_wp2_with fail
          refine HN1.out.mono ?_
          rintro e w3 ⟨rfl, hc3, hk3⟩
          go_wp2_with fail
          refine (curnum_bad bc ok _ w3 hc3 HN1B.out).mono ?_
          rintro e w4 ⟨rfl, rfl⟩
          unfold brk
          go_wp2_with fail
          exact ⟨rfl, .inr ⟨rfl, rfl, hk1.trans (hkz.trans hk3 fun _ _ e => e) fun _ _ e => e⟩⟩
        | some p2 =>
          obtain ⟨n, k2⟩ := p2
          have HST := Lib.hid (hinv.out.step hlt hn1 hn2)
          have HN2 := Lib.hid hn2
          have hnm := (rdN_some hn2).2.2.2.2
          clear hn1 hn2
          go_wp2_with fail
          refine HN1.out.mono ?_
          rintro e w3 ⟨rfl, hc3, hk3⟩
          go_wp2_with fail
          refine (curnum_ok bc ok _ n k2 w3 hc3 HN2.out).mono ?_
          rintro e w4 ⟨rfl, hc4, hk4⟩
          have hk34 : Kp (fun g => g = bc) wr w4 := hk3.trans hk4 fun _ _ e => e
          have hov4 := own_kp hov hk34 (fun g hg e => by have := own_ge hov hg; omega)
          have hsz4 := hk34.size
          go_wp2_with (at_builtin; go_loud (refine wpList_app1 w4 _ _ rfl (.tmp 22) (.tmp 29) 34 56 rfl es w1.heap.size _ _ _ hov4 rfl 1 1 rfl rfl (by simp [Value.oneCell']) (by simp only [maxLen]; omega) (by omega) (by omega) ?_; intro v5 w5 ho5 hk5 ha5))
          have hc5 := hc4.kp hk5 (fun e => by have := own_ge hov4 e; omega) (fun g hg e => by have := own_ge hov4 e; have := hok g hg; omega)
          go_roundw
          case rel => exact ⟨_, _, _, ⟨q + 1, by omega, by go_num, pre ++ [((f : Int), (f : Int) + (n : Int))], by rw [List.length_append, hpl]; rfl, by rw [sps_app]; exact ho5, _, hc5, (hkz.trans hk34 fun _ _ e => e).trans hk5 (fun i hi e => by have := own_ge hov4 e; omega), HST⟩, rfl, rfl, rfl⟩
          case measure => simp [intOf]; omega
    · have hqm : q = m := by omega
      subst hqm
      have hRs := hinv.out.done
      subst hRs
      have h1 : ¬ ((q : Nat) : Int) < (q : Int) := by omega
      go_wp2_with fail
      go_ret
      exact .inl ⟨pre, zs, _, rfl, rfl, by rw [hpl]; exact own_base hov (fun g hg => by have := own_ge hov hg; omega), hcz, hk1.trans hkz fun _ _ e => e⟩

set_option maxRecDepth 100000 in
set_option maxHeartbeats 1600000 in
theorem curspans_bad (bc : Nat) (ok : Nat → Prop) (xs : List UInt8) (w : World) (hcur : Cur w bc ok xs) (h : ∀ m k, rdN xs = some (m, k) → (xs.drop k).length < m) :
    Calls Tryd.prog 56 #[.pointer (some ⟨bc, 0, none⟩)] w fun e w' => e = brk ∧ Kp (fun g => g = bc) w w' := by
  cases hq : rdN xs with
  | none =>
    have HN := Lib.hid (curnum_bad bc ok xs w hcur hq)
    clear hq h
    go_enter Tryd.func56, Tryd.ntmps56
    go_wp2_with fail
    refine HN.out.mono ?_
    rintro e w1 ⟨rfl, rfl⟩
    unfold brk
    go_wp2_with fail
    exact ⟨rfl, rfl, Kp.refl _ _⟩
  | some r =>
    obtain ⟨m, k⟩ := r
    have HN := Lib.hid (curnum_ok bc ok xs m k w hcur hq)
    have hlt := h m k hq
    clear hq h hcur
    generalize xs.drop k = ys at *
    go_enter Tryd.func56, Tryd.ntmps56
    go_wp2_with fail
    refine HN.out.mono ?_
    rintro e w1 ⟨rfl, hcur1, hk1⟩
    obtain ⟨A, c, hb, hr, hc, hn, hk0⟩ := hcur1
    have hcl : w1.cell? ⟨bc, 0, none⟩ = some (.slice A ys.length c) := cell_of_row w1 bc 0 _ _ _ hb
    have hmz : decide ((ys.length : Int) < (m : Int)) = true := by simp; omega
    clear hb hr
    go_wp2_with fail
    exact ⟨rfl, rfl, hk1⟩

end Go.Proofs.YtjgnapjhlhdgfaaDoor
