/- Records: the program's Read: the deferred closure. Records: the program's Read. Records: the program's Read: of some bytes. -/
import Derived.Test.YtjgnapjhlhdgfaaDoorRv
import Derived.Defers
import Derived.Recover
import Derived.Laws.Tables
import Derived.Test.YtjgnapjhlhdgfaaDoorRqh
import Derived.Deep.DeepCutAuto
set_option linter.unusedVariables false
set_option linter.unusedSimpArgs false
namespace Go.Proofs.YtjgnapjhlhdgfaaDoor
open Go.RowKit

def zeroC : Array Value := #[.int .i64 0, .int .i64 0, .int .i64 0, .int .i64 0, .int .i64 0, .int .i64 0, .int .i64 0, .int .i64 0, .int .i64 0, .slice none 0 0, .slice none 0 0]

theorem row_set {w : World} {b t : Nat} {old cs : Array Value} (h : w.heap[b]? = some (.cells old t (0, 0))) : (w.setRow b cs).heap[b]? = some (.cells cs t (0, 0)) ∧ Kp (fun g => g = b) w (w.setRow b cs) :=
  ⟨setRow_heap w b old cs t _ h, ⟨rfl, rfl, rfl, by simp, fun k _ hk => setRow_other w b k _ hk⟩⟩
theorem stAt (t : TypeId) (x y : Operand) {P : Program} {ops : Array Oper} {rest : List Oper} {a : Act} {Q : Exit → Act → World → Prop} {w : World} {c d e f} (h : wpList P ops Q (Oper.mk none (.store t x y) c d e f :: rest) a w) :
    wpList P ops Q (Oper.mk none (.store t x y) c d e f :: rest) a w := h

set_option maxRecDepth 100000 in
set_option maxHeartbeats 3200000 in
theorem catch_brk (b2 b3 : Nat) (C : Array Value) (x : Int) (w : World) (h2 : w.heap[b2]? = some (.cells C 36 (0, 0))) (hC : C.size = 11) (h3 : w.heap[b3]? = some (.cells #[.int .i64 x] 29 (0, 0))) (hne : b2 ≠ b3) :
    CallsD Tryd.prog 54 #[.pointer (some ⟨b2, 0, none⟩), .pointer (some ⟨b3, 0, none⟩)] (.panicking [{ v := brkV, recovered := false }]) w fun e u' w' =>
      e = .returned (.tuple #[]) ∧ u' = .panicking [{ v := brkV, recovered := true }] ∧ w'.heap[b2]? = some (.cells zeroC 36 (0, 0)) ∧ w'.heap[b3]? = some (.cells #[.int .i64 61] 29 (0, 0)) ∧ Kp (fun g => g = b2 ∨ g = b3) w w' := by
  refine callsD_of_wpS Tryd.func54 rfl fun c₀ cs hu => ?_
  apply wpS_seq
  apply wpS_region
  unfold brkV at *
  simp [wpOpsS, go_sem, recoverD, hu, Tryd.ntmps54, Exit.thenS]
  refine wpS_of_wp ?_
  have hf3 : w.frozen? ⟨b3, 0, none⟩ = false := by simp [World.frozen?, h3]
  have hc3 : w.cell? ⟨b3, 0, none⟩ = some (.int .i64 x) := cell_of_row w b3 0 _ _ _ h3
  have hl2 := (Array.getElem?_eq_some_iff.1 h2).1
  have hl3 := (Array.getElem?_eq_some_iff.1 h3).1
  have efr : (#[Value.pointer (some ⟨b2, 0, none⟩), .pointer (some ⟨b3, 0, none⟩)] : Array Value) ++ ((Array.replicate 15 undef).setIfInBounds 3 (Value.iface 94 (.agg #[]))).setIfInBounds 0 (Value.iface 94 (.agg #[])) =
      #[.pointer (some ⟨b2, 0, none⟩), .pointer (some ⟨b3, 0, none⟩), .iface 94 (.agg #[]), undef, undef, .iface 94 (.agg #[]), undef, undef, undef, undef, undef, undef, undef, undef, undef, undef, undef] := rfl
  rw [efr]
  clear efr
  have hta : ∀ w : World, (Instr.typeAssert (.iface 94 (.agg #[])) 20 94 true).run Tryd.prog w = .ok (.tuple #[.agg #[], .bool true]) w := fun _ => by kernel_rfl
  have hcz : Hid (C.size = zeroC.size) := hC.trans (by kernel_rfl)
  have haz : Hid (zeroC.all (·.oneCell') = true) := by show _ = _; kernel_rfl
  have hiz : Hid ((Tryd.prog.info? 36).map (·.size) = some zeroC.size) := by show _ = _; kernel_rfl
  have hb2 : (w.alloc (.cells #[] 94)).heap[b2]? = some (.cells C 36 (0, 0)) := blk_nw h2 ((Kp.refl _ w).alloc _)
  go_wp2_with ((with_reducible refine stAt 36 (.tmp 0) (.tmp 16) ?_); go_loud (refine wpList_store_row rfl 36 (.tmp 0) (.tmp 16) rfl b2 zeroC rfl rfl 36 C hb2 hiz.out hcz.out haz.out ?_; obtain ⟨hr5, hk5⟩ := row_set (cs := zeroC) hb2; have h35 := blk_kp (blk_nw h3 ((Kp.refl _ w).alloc (.cells #[] 94))) hk5 (fun e => hne e.symm); generalize World.setRow (w.alloc (.cells #[] 94)) b2 zeroC = w5 at *; have hf5 : w5.frozen? ⟨b3, 0, none⟩ = false := (by simp [World.frozen?, h35]); have hc5 : w5.cell? ⟨b3, 0, none⟩ = some (.int .i64 x) := cell_of_row w5 b3 0 _ _ _ h35))
  have hset := heap_setCell_same w5 b3 0 _ _ (.int .i64 61) h35
  have hks : Kp (fun g => g = b3) w5 (w5.setCell ⟨b3, 0, none⟩ (.int .i64 61)) := (Kp.refl (fun g => g = b3) w5).setCell (p := ⟨b3, 0, none⟩) (fun _ => rfl) _
  have hr6 := blk_kp hr5 hks hne
  have hkk : Kp (fun g => g = b2 ∨ g = b3) w (w5.setCell ⟨b3, 0, none⟩ (.int .i64 61)) :=
    Kp.kp0 ((Kp.refl _ w).alloc (.cells #[] 94)) (Kp.trans (S := fun g => g = b2 ∨ g = b3) (hk5.mono fun k _ e => Or.inl e) (hks.mono (T := fun g => g = b2 ∨ g = b3) fun k _ e => Or.inr e) fun _ _ e => e)
  generalize w5.setCell ⟨b3, 0, none⟩ (.int .i64 61) = w6 at *
  have hs6 := hset
  clear hks hk5 hset
  simp [bodyPostS, results, Tryd.results54]
  exact ⟨hr6, hs6, hkk⟩

theorem catch_idle (p2 p3 : Value) (w : World) :
    CallsD Tryd.prog 54 #[p2, p3] .returning w fun e u' w' => e = .returned (.tuple #[]) ∧ u' = .returning ∧ w' = w := by
  refine callsD_of_wpS Tryd.func54 rfl fun c₀ cs hu => ?_
  apply wpS_seq
  apply wpS_region
  simp [wpOpsS, go_sem, recoverD, hu, Tryd.ntmps54, Exit.thenS]
  refine wpS_of_wp ?_
  have efr : (#[p2, p3] : Array Value) ++ ((Array.replicate 15 undef).setIfInBounds 3 Value.nilIface).setIfInBounds 0 Value.nilIface =
      #[p2, p3, .nilIface, undef, undef, .nilIface, undef, undef, undef, undef, undef, undef, undef, undef, undef, undef, undef] := rfl
  rw [efr]
  clear efr
  go_wp2
  cases c₀
  simp_all [bodyPostS, results, Tryd.results54]

end Go.Proofs.YtjgnapjhlhdgfaaDoor

namespace Go.Proofs.YtjgnapjhlhdgfaaDoor
open Go.RowKit

/-- What a Read answers. -/
def ReadPost (w : World) (O : RSt × Int) (e : Ending) (w' : World) : Prop :=
  ∃ (S : Option Addr) (sc : Nat) (D : Option Addr) (dc : Nat), e = .returned (.tuple #[(O.1.a.at_ S sc D dc).val, .int .i64 O.2]) ∧ w'.ownsRow w.heap.size 56 2 (.slice S O.1.a.sn sc) O.1.a.sn (sps O.1.sp) ∧
    w'.ownsRow w.heap.size 5 1 (.slice D O.1.a.dn dc) O.1.a.dn (bys O.1.dt) ∧ Nw w w'
theorem zero_val : (zeroR.at_ none 0 none 0).val = .agg zeroC := rfl

theorem read_results (fr : Array Value) (b2 b3 : Nat) (C : Array Value) (x : Int) (w : World) (hC : C.size = 11)
    (ht2 : fr.getD 2 undef = .pointer (some ⟨b2, 0, none⟩)) (ht3 : fr.getD 3 undef = .pointer (some ⟨b3, 0, none⟩)) (h2 : w.heap[b2]? = some (.cells C 36 (0, 0))) (h3 : w.heap[b3]? = some (.cells #[.int .i64 x] 29 (0, 0))) :
    (results Tryd.f36 fr).run Tryd.prog w = .ok (.tuple #[.agg C, .int .i64 x]) w := by
  have hc3 : w.cell? ⟨b3, 0, none⟩ = some (.int .i64 x) := cell_of_row w b3 0 _ _ _ h3
  have hl := run_loadVar_row (P := Tryd.prog) w b2 36 36 C (0, 0) _ h2 Tryd.underlying36 rfl (by rw [hC]; kernel_rfl)
  have ht2' : fr[2]?.getD undef = .pointer (some ⟨b2, 0, none⟩) := by simpa using ht2
  have ht3' : fr[3]?.getD undef = .pointer (some ⟨b3, 0, none⟩) := by simpa using ht3
  have hl3 : (loadVar 29 ⟨b3, 0, none⟩).run Tryd.prog w = .ok (.int .i64 x) w := by simp [go_sem, hc3]
  simp [results, Tryd.results36, ht2', ht3', asAddr, hl, hl3]

theorem door_panic (fr : Array Value) (b2 b3 : Nat) (C : Array Value) (x : Int) (wx : World) (R : Ending → World → Prop) (h2 : wx.heap[b2]? = some (.cells C 36 (0, 0))) (hC : C.size = 11)
    (h3 : wx.heap[b3]? = some (.cells #[.int .i64 x] 29 (0, 0))) (hne : b2 ≠ b3)
    (ht2 : fr.getD 2 undef = .pointer (some ⟨b2, 0, none⟩)) (ht3 : fr.getD 3 undef = .pointer (some ⟨b3, 0, none⟩))
    (hK : ∀ w', Kp (fun g => g = b2 ∨ g = b3) wx w' → R (.returned (.tuple #[.agg zeroC, .int .i64 61])) w') :
    bodyPostD Tryd.prog Tryd.f36 R (Exit.panic [{ v := .iface 94 (.agg #[]), recovered := false }])
      { tmps := fr, defers := [{ target := .fn (.func 54) #[.pointer (some ⟨b2, 0, none⟩), .pointer (some ⟨b3, 0, none⟩)], args := #[] }] } wx := by
  show Leaves _ _ _ _ _ _ _
  refine leaves_cons (f := 54) (args := #[.pointer (some ⟨b2, 0, none⟩), .pointer (some ⟨b3, 0, none⟩)]) (by simp) (by simp [go_sem]) ?_
  refine (catch_brk b2 b3 C x wx h2 hC h3 hne).mono ?_
  rintro e u' w' ⟨rfl, rfl, hb2, hb3, hk⟩
  exact ⟨_, read_results fr b2 b3 zeroC 61 w' (by kernel_rfl) ht2 ht3 hb2 hb3, hK w' hk⟩

theorem door_ret (fr : Array Value) (b2 b3 : Nat) (C : Array Value) (x : Int) (wx : World) (R : Ending → World → Prop) (h2 : wx.heap[b2]? = some (.cells C 36 (0, 0))) (hC : C.size = 11)
    (h3 : wx.heap[b3]? = some (.cells #[.int .i64 x] 29 (0, 0)))
    (ht2 : fr.getD 2 undef = .pointer (some ⟨b2, 0, none⟩)) (ht3 : fr.getD 3 undef = .pointer (some ⟨b3, 0, none⟩))
    (hK : R (.returned (.tuple #[.agg C, .int .i64 x])) wx) :
    bodyPostD Tryd.prog Tryd.f36 R Exit.ret
      { tmps := fr, defers := [{ target := .fn (.func 54) #[.pointer (some ⟨b2, 0, none⟩), .pointer (some ⟨b3, 0, none⟩)], args := #[] }] } wx := by
  show Leaves _ _ _ _ _ _ _
  refine leaves_cons (f := 54) (args := #[.pointer (some ⟨b2, 0, none⟩), .pointer (some ⟨b3, 0, none⟩)]) (by simp) (by simp [go_sem]) ?_
  refine (catch_idle _ _ wx).mono ?_
  rintro e u' w' ⟨rfl, rfl, rfl⟩
  exact ⟨_, read_results fr b2 b3 C x w' hC ht2 ht3 h2 h3, hK⟩

theorem readPost_zero {w w' : World} (n : Int) (h : Nw w w') : ReadPost w (⟨zeroR, [], [], []⟩, n) (.returned (.tuple #[.agg zeroC, .int .i64 n])) w' :=
  ⟨none, 0, none, 0, rfl, World.ownsRow_nil _ _ _ _, World.ownsRow_nil _ _ _ _, h⟩

set_option maxRecDepth 100000 in
set_option maxHeartbeats 3200000 in
theorem read_long (A : Option Addr) (n c : Nat) (w : World) (hn : 131072 < n) : Calls Tryd.prog 36 #[.slice A n c] w (ReadPost w (⟨zeroR, [], [], []⟩, 2)) := by
  have h1 : (131072 : Int) < (n : Int) := by omega
  go_enter_defers Tryd.func36, Tryd.ntmps36
  go_wp2
  refine ⟨_, read_results _ w.heap.size (w.heap.size + 1) zeroC 2 _ (by kernel_rfl) rfl rfl ?_ ?_, readPost_zero 2 (((Kp.refl _ w).alloc _).alloc _)⟩
  · exact heap_alloc2_old _ _ _
  · exact heap_alloc2_new _ _ _

set_option maxRecDepth 100000 in
set_option maxHeartbeats 3200000 in
theorem read_empty (A : Option Addr) (c : Nat) (w : World) : Calls Tryd.prog 36 #[.slice A 0 c] w (ReadPost w (⟨zeroR, [], [], []⟩, 61)) := by
  have hmf : ∀ (fn : Fn) (first cap : Array Value) (w : World), (Instr.makeFunc fn first cap).run Tryd.prog w = .ok (.func fn first cap) w := fun _ _ _ _ => rfl
  go_enter_defers Tryd.func36, Tryd.ntmps36
  go_wp2
  refine door_panic _ w.heap.size (w.heap.size + 1) zeroC 0 _ _ (heap_alloc2_old _ _ _) (by kernel_rfl) (heap_alloc2_new _ _ _) (by omega) rfl rfl fun w' hk => readPost_zero 61 ?_
  exact (((Kp.refl _ w).alloc _).alloc _).trans hk fun i hi e => by omega

end Go.Proofs.YtjgnapjhlhdgfaaDoor

namespace Go.Proofs.YtjgnapjhlhdgfaaDoor
open Go.RowKit

/-- What Read answers where there is a byte. -/
def rdA (xs : List UInt8) : RSt × Int :=
  match rdR xs with
  | none => (⟨zeroR, [], [], []⟩, 61)
  | some s => (s, 0)

/-- Where the fields begin. -/
structure RdStart (w wx : World) (ok : Nat → Prop) (r : List UInt8) (C : Array Value) : Prop where
  cur : Cur wx (w.heap.size + 1 + 1) ok r
  rcd : wx.heap[w.heap.size]? = some (.cells C 36 (0, 0))
  err : wx.heap[w.heap.size + 1]? = some (.cells #[.int .i64 0] 29 (0, 0))
  nw : Nw w wx
  size : w.heap.size + 3 ≤ wx.heap.size
theorem start_facts {w : World} {A : Option Addr} {m c : Nat} {ok : Nat → Prop} {r : List UInt8} (hr : Rd w ok 1 A m (bys r)) (hc : m ≤ c) (hn : m ≤ 131072) (hok : ∀ g, ok g → g < w.heap.size) :
    RdStart w (((w.alloc (.cells #[.int .i64 0, .int .i64 0, .int .i64 0, .int .i64 0, .int .i64 0, .int .i64 0, .int .i64 0, .int .i64 0, .int .i64 0, .slice none 0 0, .slice none 0 0] 36)).alloc (.cells #[.int .i64 0] 29)).alloc (.cells #[.slice A m c] 98)) ok r zeroC := by
  have hm : r.length = m := by have := hr.len; rwa [bys_len] at this
  subst hm
  have h2 : Nw w ((w.alloc (.cells #[.int .i64 0, .int .i64 0, .int .i64 0, .int .i64 0, .int .i64 0, .int .i64 0, .int .i64 0, .int .i64 0, .int .i64 0, .slice none 0 0, .slice none 0 0] 36)).alloc (.cells #[.int .i64 0] 29)) := ((Kp.refl _ w).alloc _).alloc _
  have e1 := heap_alloc2_old w (.cells #[.int .i64 0, .int .i64 0, .int .i64 0, .int .i64 0, .int .i64 0, .int .i64 0, .int .i64 0, .int .i64 0, .int .i64 0, .slice none 0 0, .slice none 0 0] 36) (.cells #[.int .i64 0] 29)
  have e2 := heap_alloc2_new w (.cells #[.int .i64 0, .int .i64 0, .int .i64 0, .int .i64 0, .int .i64 0, .int .i64 0, .int .i64 0, .int .i64 0, .int .i64 0, .slice none 0 0, .slice none 0 0] 36) (.cells #[.int .i64 0] 29)
  have hz : ((w.alloc (.cells #[.int .i64 0, .int .i64 0, .int .i64 0, .int .i64 0, .int .i64 0, .int .i64 0, .int .i64 0, .int .i64 0, .int .i64 0, .slice none 0 0, .slice none 0 0] 36)).alloc (.cells #[.int .i64 0] 29)).heap.size = w.heap.size + 1 + 1 := by simp
  generalize (w.alloc (.cells #[.int .i64 0, .int .i64 0, .int .i64 0, .int .i64 0, .int .i64 0, .int .i64 0, .int .i64 0, .int .i64 0, .int .i64 0, .slice none 0 0, .slice none 0 0] 36)).alloc (.cells #[.int .i64 0] 29) = w2 at *
  have h3 : Nw w2 (w2.alloc (.cells #[.slice A r.length c] 98)) := (Kp.refl _ w2).alloc _
  refine ⟨⟨A, c, ?_, hr.nw (h2.nw h3), hc, hn, fun k hk => by have := hok k hk; omega⟩, blk_nw e1 h3, blk_nw e2 h3, h2.nw h3, ?_⟩
  · rw [← hz]
    exact heap_alloc_new w2 _
  · simp
    omega

/-- What is known ahead of the field j. -/
structure RdInvW (w wr : World) (ok : Nat → Prop) (l : List Nat) (L : Option Addr) (lc : Nat) (R : Option RSt) (j : Nat) (s : RSt) (S : Option Addr) (sc : Nat) (D : Option Addr) (dc : Nat) : Prop where
  eq : rdL (l.drop j) s = R
  st : RdStart w wr ok s.r (s.a.at_ S sc D dc).cells
  os : wr.ownsRow (w.heap.size + 3) 56 2 (.slice S s.a.sn sc) s.a.sn (sps s.sp)
  od : wr.ownsRow (w.heap.size + 3) 5 1 (.slice D s.a.dn dc) s.a.dn (bys s.dt)
  ol : wr.ownsRow (w.heap.size + 3) 3 1 (.slice L l.length lc) l.length (ivs l)
  bn : s.a.sn ≤ 131072 ∧ s.a.dn ≤ 131072
theorem RdInvW.next {w wr wx : World} {ok : Nat → Prop} {l : List Nat} {L : Option Addr} {lc : Nat} {R : Option RSt} {j f : Nat} {s s' : RSt} {S S' : Option Addr} {sc sc' : Nat} {D D' : Option Addr} {dc dc' : Nat}
    (h : RdInvW w wr ok l L lc R j s S sc D dc) (hj : l[j]? = some f) (hf : rdF s f = some s') (hk : Kp (fun g => g = w.heap.size + 1 + 1 ∨ g = w.heap.size) wr wx) (hcur : Cur wx (w.heap.size + 1 + 1) ok s'.r)
    (hrcd : wx.heap[w.heap.size]? = some (.cells (s'.a.at_ S' sc' D' dc').cells 36 (0, 0)))
    (hos : wx.ownsRow (w.heap.size + 3) 56 2 (.slice S' s'.a.sn sc') s'.a.sn (sps s'.sp)) (hod : wx.ownsRow (w.heap.size + 3) 5 1 (.slice D' s'.a.dn dc') s'.a.dn (bys s'.dt))
    (hb : s'.a.sn ≤ 131072 ∧ s'.a.dn ≤ 131072) : RdInvW w wx ok l L lc R (j + 1) s' S' sc' D' dc' := by
  have hjl := (List.getElem?_eq_some_iff.1 hj)
  refine ⟨?_, ⟨hcur, hrcd, blk_kp h.st.err hk (by omega), h.st.nw.trans hk (fun i hi e => by omega), by have := hk.size; have := h.st.size; omega⟩, hos, hod, own_kp h.ol hk (fun g hg e => by have := own_ge h.ol hg; omega), hb⟩
  have e := h.eq
  rw [List.drop_eq_getElem_cons hjl.1, hjl.2] at e
  simp only [rdL, hf, Option.bind_some] at e
  exact e
theorem RdInvW.none {w wr : World} {ok : Nat → Prop} {l : List Nat} {L : Option Addr} {lc : Nat} {R : Option RSt} {j f : Nat} {s : RSt} {S : Option Addr} {sc : Nat} {D : Option Addr} {dc : Nat}
    (h : RdInvW w wr ok l L lc R j s S sc D dc) (hj : l[j]? = some f) (hf : rdF s f = Option.none) : R = Option.none := by
  have hjl := (List.getElem?_eq_some_iff.1 hj)
  have e := h.eq
  rw [List.drop_eq_getElem_cons hjl.1, hjl.2] at e
  simp only [rdL, hf, Option.bind_none] at e
  exact e.symm
theorem RdInvW.done {w wr : World} {ok : Nat → Prop} {l : List Nat} {L : Option Addr} {lc : Nat} {R : Option RSt} {s : RSt} {S : Option Addr} {sc : Nat} {D : Option Addr} {dc : Nat}
    (h : RdInvW w wr ok l L lc R l.length s S sc D dc) : R = some s := by
  have e := h.eq
  rw [List.drop_of_length_le (Nat.le_refl _)] at e
  exact e.symm
/-- A store into the record. -/
theorem RdStart.put {w wr : World} {ok : Nat → Prop} {r : List UInt8} {C : Array Value} (h : RdStart w wr ok r C) (hok : ∀ g, ok g → g < w.heap.size) (k : Nat) (v : Value) :
    (wr.setCell ⟨w.heap.size, k, none⟩ v).heap[w.heap.size]? = some (.cells (C.setIfInBounds k v) 36 (0, 0)) ∧ Kp (fun g => g = w.heap.size) wr (wr.setCell ⟨w.heap.size, k, none⟩ v) ∧
      Cur (wr.setCell ⟨w.heap.size, k, none⟩ v) (w.heap.size + 1 + 1) ok r := by
  have hks : Kp (fun g => g = w.heap.size) wr (wr.setCell ⟨w.heap.size, k, none⟩ v) := (Kp.refl (fun g => g = w.heap.size) wr).setCell (p := ⟨w.heap.size, k, none⟩) (fun _ => rfl) _
  exact ⟨heap_setCell_same wr w.heap.size k _ _ v h.rcd, hks, h.cur.kp hks (by omega) (fun g hg e => by have := hok g hg; omega)⟩
theorem RdStart.cell {w wr : World} {ok : Nat → Prop} {r : List UInt8} {C : Array Value} (h : RdStart w wr ok r C) (k : Nat) : wr.cell? ⟨w.heap.size, k, none⟩ = C[k]? ∧ wr.frozen? ⟨w.heap.size, k, none⟩ = false :=
  ⟨cell_of_row wr w.heap.size k _ _ _ h.rcd, by simp [World.frozen?, h.rcd]⟩

set_option maxRecDepth 100000 in
set_option maxHeartbeats 6400000 in
theorem read_some (A : Option Addr) (n c : Nat) (ok : Nat → Prop) (b : UInt8) (r : List UInt8) (w : World) (hr : Rd w ok 1 A n (bys (b :: r))) (hnc : n ≤ c) (hn : n ≤ 131072) (hok : ∀ g, ok g → g < w.heap.size) :
    Calls Tryd.prog 36 #[.slice A n c] w (ReadPost w (rdA (b :: r))) := by
  have hmf : ∀ (fn : Fn) (first cap : Array Value) (w : World), (Instr.makeFunc fn first cap).run Tryd.prog w = .ok (.func fn first cap) w := fun _ _ _ _ => rfl
  have hl : r.length + 1 = n := by have := hr.len; rw [bys_len] at this; simpa using this
  have hn0 : ((n : Int) == 0) = false := by rw [beq_eq_false_iff_ne]; omega
  have hn1 : decide ((131072 : Int) < (n : Int)) = false := by simp; omega
  obtain ⟨ad, rfl, _, hcb⟩ := hr.byte (k := 0) (by simp)
  rw [add_zero_] at hcb
  simp only [List.getElem_cons_zero] at hcb
  have hcut := hr.cut1 (k := 1) (cap := c) (by omega) hnc
  rw [← bys_drop] at hcut
  simp only [List.drop_succ_cons, List.drop_zero] at hcut
  have hcut : Rd w ok 1 (if c = 1 then some ad else (some ad).map (fun a => a.add 1)) r.length (bys r) := by
    rw [show r.length = n - 1 from by omega]
    exact hcut
  have HCUT := Lib.hid hcut
  have hadw : ad.block < w.heap.size := by
    have := World.block_lt_of_cell? _ _ hcb
    exact this
  have HL := Lib.hid hl
  have HK := Lib.hid hok
  clear hr hcut hl hok
  have hO : rdA (b :: r) = (match rdL (fds (b.toNat : Int)) (rd0 b r) with | none => (⟨zeroR, [], [], []⟩, 61) | some s => if s.r = [] ∧ okR s.a s.sp = true then (s, 0) else (⟨zeroR, [], [], []⟩, 61)) := by
    unfold rdA rdR
    simp only
    cases rdL (fds (b.toNat : Int)) (rd0 b r) with
    | none => rfl
    | some s => by_cases h : s.r = [] ∧ okR s.a s.sp = true <;> simp [h]
  rw [hO]
  clear hO
  obtain ⟨l, hlf⟩ : ∃ l, l = fds (b.toNat : Int) := ⟨_, rfl⟩
  obtain ⟨R, hR⟩ : ∃ R, R = rdL l (rd0 b r) := ⟨_, rfl⟩
  rw [← hlf, ← hR]
  have hll : l.length ≤ 7 := by rw [hlf]; exact fds_len _
  have HLT : Hid (∀ f ∈ l, f < 10) := by rw [hlf]; exact fds_lt _
  have HFD : Hid (∀ W, Calls Tryd.prog 31 #[.int .i64 (b.toNat : Int)] W fun e w' => ∃ v, e = .returned v ∧ w'.ownsRow W.heap.size 3 1 v l.length (ivs l) ∧ Nw W w') := by
    rw [hlf]
    exact fun W => fields_any _ W
  have HRR := Lib.hid hR
  clear hlf hR
  have HON : Hid (R = none → (match R with | none => ((⟨zeroR, [], [], []⟩, 61) : RSt × Int) | some s => if s.r = [] ∧ okR s.a s.sp = true then (s, 0) else (⟨zeroR, [], [], []⟩, 61)) = (⟨zeroR, [], [], []⟩, 61)) := fun h => by rw [h]
  have HOS : Hid (∀ s, R = some s → (match R with | none => ((⟨zeroR, [], [], []⟩, 61) : RSt × Int) | some s => if s.r = [] ∧ okR s.a s.sp = true then (s, 0) else (⟨zeroR, [], [], []⟩, 61)) = if s.r = [] ∧ okR s.a s.sp = true then (s, 0) else (⟨zeroR, [], [], []⟩, 61)) := fun s h => by rw [h]
  generalize (match R with | none => ((⟨zeroR, [], [], []⟩, 61) : RSt × Int) | some s => if s.r = [] ∧ okR s.a s.sp = true then (s, 0) else (⟨zeroR, [], [], []⟩, 61)) = O at *
  go_enter_defers Tryd.func36, Tryd.ntmps36
  go_upto_region 6 with fail
  go_cut [4] from 17 to 20 (fun s4 wx => s4 = .pointer (some ⟨w.heap.size + 1 + 1, 0, none⟩) ∧ Hid (RdStart w wx ok r zeroC))
  case first =>
    have hl := HL.out
    have h1n : (1 : Int) ≤ (n : Int) := by omega
    by_cases hck : c = 1
    · have hcu := HCUT.out
      rw [if_pos hck] at hcu
      have hS := Lib.hid (start_facts (c := 0) (by rw [show r.length = 0 from by omega] at hcu; exact hcu) (by omega) (by omega) HK.out)
      subst hck
      have hn1' : n = 1 := by omega
      subst hn1'
      clear hcu hl
      go_wp2
      go_meet
      exact ⟨rfl, hS⟩
    · have hcu := HCUT.out
      rw [if_neg hck] at hcu
      have hS := Lib.hid (start_facts (c := c - 1) (by rw [show r.length = n - 1 from by omega] at hcu; exact hcu) (by omega) (by omega) HK.out)
      clear hcu hl
      go_wp2
      go_meet
      exact ⟨rfl, hS⟩
  case rest =>
    obtain ⟨rfl, hS⟩ := hcut
    have hst := hS.out
    have hrc := hst.rcd
    have hsz := hst.size
    have hcb' := (Kp.cell hst.nw hadw (fun e => e)).trans hcb
    have hc0' : wc.cell? ⟨w.heap.size, 0, none⟩ = some (.int .i64 0) := cell_of_row wc w.heap.size 0 _ _ _ hrc
    have hf0 : wc.frozen? ⟨w.heap.size, 0, none⟩ = false := by simp [World.frozen?, hrc]
    have hset := heap_setCell_same wc w.heap.size 0 _ _ (.int .i64 (b.toNat : Int)) hrc
    have hks : Kp (fun g => g = w.heap.size) wc (wc.setCell ⟨w.heap.size, 0, none⟩ (.int .i64 (b.toNat : Int))) := (Kp.refl (fun g => g = w.heap.size) wc).setCell (p := ⟨w.heap.size, 0, none⟩) (fun _ => rfl) _
    have hS2 : Hid (RdStart w (wc.setCell ⟨w.heap.size, 0, none⟩ (.int .i64 (b.toNat : Int))) ok r ((rd0 b r).a.at_ none 0 none 0).cells) :=
      ⟨hst.cur.kp hks (by omega) (fun g hg e => by have := HK.out g hg; omega), hset, blk_kp hst.err hks (by omega), hst.nw.trans hks (fun i hi e => by omega), by have := hks.size; omega⟩
    have hb256 := b.toNat_lt
    have h0n : (0 : Int) < (n : Int) := by have := HL.out; omega
    have HRR0 := HRR
    clear hst hrc hset hks hS
    generalize b.toNat = x at *
    go_wp2_with fail
    generalize wc.setCell ⟨w.heap.size, 0, none⟩ (.int .i64 (x : Int)) = w4 at *
    refine (HFD.out w4).mono ?_
    rintro e w5 ⟨v5, rfl, ho5, hnw5⟩
    obtain ⟨L, lc, rfl, _, _⟩ := own_read ho5
    go_wp2_with fail
    have hst := hS2.out
    have hsz5 := hnw5.size
    have hsz4 := hst.size
    have hol : w5.ownsRow (w.heap.size + 3) 3 1 (.slice L l.length lc) l.length (ivs l) := own_base ho5 (fun g hg => by have := own_ge ho5 hg; omega)
    have hst5 : RdStart w w5 ok (rd0 b r).r ((rd0 b r).a.at_ none 0 none 0).cells := ⟨hst.cur.nw hnw5, blk_nw hst.rcd hnw5, blk_nw hst.err hnw5, hst.nw.nw hnw5, by omega⟩
    have hI0 : Hid (∃ s S sc D dc, RdInvW w w5 ok l L lc R 0 s S sc D dc) := ⟨rd0 b r, none, 0, none, 0, HRR.out.symm, hst5, World.ownsRow_nil _ _ _ _, World.ownsRow_nil _ _ _ _, hol, by show (0 : Nat) ≤ _ ∧ (0 : Nat) ≤ _; omega⟩
    clear hst hst5 hol ho5 hnw5 hsz5 hsz4 hS2 hc0' hf0 hcb' hcb
    go_loopw [30] (fun i wr => ∃ j : Nat, j ≤ l.length ∧ i = .int .i64 j ∧ Hid (∃ s S sc D dc, RdInvW w wr ok l L lc R j s S sc D dc)) (fun i _ => l.length - (intOf i).toNat)
    case atStart => exact ⟨0, by omega, rfl, hI0⟩
    case round =>
      obtain ⟨j, hj, rfl, hinv⟩ := hrel
      obtain ⟨s, S, sc, D, dc, hI⟩ := hinv.out
      have HI := Lib.hid hI
      clear hinv
      by_cases hlt : j < l.length
      · have hgj : l[j]? = some l[j] := List.getElem?_eq_getElem hlt
        have hf10 := HLT.out _ (List.getElem_mem hlt)
        have hol' := own_slice hI.ol
        clear hI
        obtain ⟨al, rfl, _, hcl⟩ := hol'.int_ hlt
        generalize l[j] = f at *
        have HGJ := Lib.hid hgj
        clear hgj hol'
        have h1 : (j : Int) < (l.length : Int) := by omega
        have h0 : (0 : Int) ≤ (j : Int) := by omega
        by_cases h9 : f = 9
        · subst h9
          have hc10 : wr.cell? ⟨w.heap.size, 10, none⟩ = some (.slice D s.a.dn dc) := (HI.out.st.cell 10).1
          have hf10' := (HI.out.st.cell 10).2
          cases hq : rdF s 9 with
          | none =>
            have hRn := HI.out.none HGJ.out hq
            have hOz := HON.out hRn
            have HB := Lib.hid (curbytes_bad _ ok s.r wr HI.out.st.cur (fun m k hmk => by
              simp only [rdF, hmk] at hq
              by_cases hle : m ≤ (s.r.drop k).length
              · rw [if_pos hle] at hq
                cases hq
              · omega))
            clear hq hRn hc10 hf10'
            rw [hOz]
            clear hOz
            go_wp2_with fail
            refine HB.out.mono ?_
            rintro e w6 ⟨rfl, hk6⟩
            unfold brk brkV
            go_wp2_with fail
            refine door_panic _ w.heap.size (w.heap.size + 1) _ 0 _ _ (blk_kp HI.out.st.rcd hk6 (by omega)) (by rfl) (blk_kp HI.out.st.err hk6 (by omega)) (by omega) rfl rfl fun w' hk => readPost_zero 61 ?_
            exact (HI.out.st.nw.trans hk6 fun i hi e => by omega).trans hk fun i hi e => by omega
          | some s' =>
            obtain ⟨m, k, hmk, hle, hs'⟩ : ∃ m k, rdN s.r = some (m, k) ∧ m ≤ (s.r.drop k).length ∧ s' = ⟨{ s.a with dn := m }, s.sp, (s.r.drop k).take m, (s.r.drop k).drop m⟩ := by
              unfold rdF at hq
              split at hq
              · cases hq
              · rename_i m k hmk
                rw [if_pos rfl] at hq
                split at hq
                · rename_i hle
                  exact ⟨m, k, hmk, hle, by simpa using hq.symm⟩
                · cases hq
            have HB := Lib.hid (curbytes_ok _ ok s.r m k wr HI.out.st.cur hmk hle)
            have HQ := Lib.hid hq
            have hm13 : m ≤ 131072 := by
              obtain ⟨_, _, _, _, _, hx, _⟩ := HI.out.st.cur
              have : (s.r.drop k).length ≤ s.r.length := by simp
              omega
            clear hq hmk hle hc10 hf10'
            go_wp2_with fail
            refine HB.out.mono ?_
            rintro e w6 ⟨v6, rfl, ho6, hc6, hk6⟩
            have hw6 := hk6.size
            have hws := HI.out.st.size
            have hos6 := own_kp HI.out.os hk6 (fun g hg e => by have := own_ge HI.out.os hg; omega)
            have ho6' : w6.ownsRow (w.heap.size + 3) 5 1 v6 m (bys ((s.r.drop k).take m)) := own_base ho6 (fun g hg => by have := own_ge ho6 hg; omega)
            obtain ⟨D', dc', rfl, _, _⟩ := own_read ho6'
            have hrc6 := blk_kp HI.out.st.rcd hk6 (by omega)
            have hst6 : RdStart w w6 ok s'.r (s.a.at_ S sc D dc).cells := ⟨by rw [hs']; exact hc6, hrc6, blk_kp HI.out.st.err hk6 (by omega), HI.out.st.nw.trans hk6 (fun i hi e => by omega), by omega⟩
            have hput := hst6.put HK.out 10 (.slice D' m dc')
            have hc10 : w6.cell? ⟨w.heap.size, 10, none⟩ = some (.slice D s.a.dn dc) := (hst6.cell 10).1
            have hf10' := (hst6.cell 10).2
            have hnx : Hid (∃ s S sc D dc, RdInvW w (w6.setCell ⟨w.heap.size, 10, none⟩ (.slice D' m dc')) ok l (some al) lc R (j + 1) s S sc D dc) := by
              refine ⟨s', S, sc, D', dc', HI.out.next HGJ.out HQ.out ((hk6.mono (fun g _ e => .inl e)).trans (hput.2.1.mono (fun g _ e => .inr e)) fun _ _ e => e) hput.2.2 ?_ ?_ ?_ ?_⟩
              · rw [hs']; exact hput.1
              · rw [hs']; exact own_kp hos6 hput.2.1 (fun g hg e => by have := own_ge hos6 hg; omega)
              · rw [hs']; exact own_kp ho6' hput.2.1 (fun g hg e => by have := own_ge ho6' hg; omega)
              · rw [hs']; exact ⟨HI.out.bn.1, hm13⟩
            clear hst6 hput hos6 ho6 ho6' hc6 hk6 hrc6 hs' HQ HB HI
            go_wp2_with fail
            generalize w6.setCell ⟨w.heap.size, 10, none⟩ (.slice D' m dc') = w7 at *
            go_roundw
            case rel => exact ⟨j + 1, by omega, by go_num, hnx⟩
            case measure =>
              simp [intOf]
              omega
        · by_cases h8 : f = 8
          · subst h8
            have hc9 : wr.cell? ⟨w.heap.size, 9, none⟩ = some (.slice S s.a.sn sc) := (HI.out.st.cell 9).1
            have hf9' := (HI.out.st.cell 9).2
            cases hq : rdN s.r with
            | none =>
              have hRn := HI.out.none HGJ.out (by simp only [rdF, hq])
              have hOz := HON.out hRn
              have HB := Lib.hid (curspans_bad _ ok s.r wr HI.out.st.cur (fun m k hmk => by rw [hq] at hmk; cases hmk))
              clear hq hRn hc9 hf9'
              rw [hOz]
              clear hOz
              go_wp2_with fail
              refine HB.out.mono ?_
              rintro e w6 ⟨rfl, hk6⟩
              unfold brk brkV
              go_wp2_with fail
              refine door_panic _ w.heap.size (w.heap.size + 1) _ 0 _ _ (blk_kp HI.out.st.rcd hk6 (by omega)) (by rfl) (blk_kp HI.out.st.err hk6 (by omega)) (by omega) rfl rfl fun w' hk => readPost_zero 61 ?_
              exact (HI.out.st.nw.trans hk6 fun i hi e => by omega).trans hk fun i hi e => by omega
            | some mk =>
              obtain ⟨m, k⟩ := mk
              by_cases hle : m ≤ (s.r.drop k).length
              · have hqF : rdF s 8 = (match rdP m (s.r.drop k) with | none => none | some (l, r) => some ⟨{ s.a with sn := m }, l, s.dt, r⟩) := by
                  simp only [rdF, hq]
                  rw [if_pos trivial, if_neg (by omega), if_pos hle]
                  cases rdP m (s.r.drop k) <;> rfl
                have HB := Lib.hid (curspans_any _ ok s.r m k wr HI.out.st.cur hq hle (fun g hg => by have := HK.out g hg; have := HI.out.st.size; omega))
                have HQ := Lib.hid hqF
                have hm13 : m ≤ 131072 := by
                  obtain ⟨_, _, _, _, _, hx, _⟩ := HI.out.st.cur
                  have : (s.r.drop k).length ≤ s.r.length := by simp
                  omega
                clear hq hle hqF
                cases hP : rdP m (s.r.drop k) with
                | none =>
                  have hRn := HI.out.none HGJ.out (by rw [HQ.out, hP])
                  have hOz := HON.out hRn
                  rw [hP] at HB
                  clear hRn hc9 hf9' hP
                  rw [hOz]
                  clear hOz
                  go_wp2_with fail
                  refine HB.out.mono ?_
                  rintro e w6 (⟨l6, r6, v6, hP, _⟩ | ⟨_, rfl, hk6⟩)
                  · cases hP
                  unfold brk brkV
                  go_wp2_with fail
                  refine door_panic _ w.heap.size (w.heap.size + 1) _ 0 _ _ (blk_kp HI.out.st.rcd hk6 (by omega)) (by rfl) (blk_kp HI.out.st.err hk6 (by omega)) (by omega) rfl rfl fun w' hk => readPost_zero 61 ?_
                  exact (HI.out.st.nw.trans hk6 fun i hi e => by omega).trans hk fun i hi e => by omega
                | some lr =>
                  obtain ⟨l6, r6⟩ := lr
                  have hl6 := rdP_len _ hP
                  rw [hP] at HB
                  have hsq : rdF s 8 = some ⟨{ s.a with sn := m }, l6, s.dt, r6⟩ := by rw [HQ.out, hP]
                  clear hP
                  go_wp2_with fail
                  refine HB.out.mono ?_
                  rintro e w6 (⟨l6', r6', v6, hP, rfl, ho6, hc6, hk6⟩ | ⟨hP, _⟩)
                  case inr => cases hP
                  simp only [Option.some.injEq, Prod.mk.injEq] at hP
                  obtain ⟨rfl, rfl⟩ := hP
                  have HSQ := Lib.hid hsq
                  rw [hl6] at ho6
                  have hw6 := hk6.size
                  have hws := HI.out.st.size
                  have hod6 := own_kp HI.out.od hk6 (fun g hg e => by have := own_ge HI.out.od hg; omega)
                  have ho6' : w6.ownsRow (w.heap.size + 3) 56 2 v6 m (sps l6) := own_base ho6 (fun g hg => by have := own_ge ho6 hg; omega)
                  obtain ⟨S', sc', rfl, _, _⟩ := own_read ho6'
                  have hrc6 := blk_kp HI.out.st.rcd hk6 (by omega)
                  have hst6 : RdStart w w6 ok r6 (s.a.at_ S sc D dc).cells := ⟨hc6, hrc6, blk_kp HI.out.st.err hk6 (by omega), HI.out.st.nw.trans hk6 (fun i hi e => by omega), by omega⟩
                  have hput := hst6.put HK.out 9 (.slice S' m sc')
                  have hc9w : w6.cell? ⟨w.heap.size, 9, none⟩ = some (.slice S s.a.sn sc) := (hst6.cell 9).1
                  have hf9w := (hst6.cell 9).2
                  have hnx : Hid (∃ s S sc D dc, RdInvW w (w6.setCell ⟨w.heap.size, 9, none⟩ (.slice S' m sc')) ok l (some al) lc R (j + 1) s S sc D dc) :=
                    ⟨_, S', sc', D, dc, HI.out.next HGJ.out HSQ.out ((hk6.mono (fun g _ e => .inl e)).trans (hput.2.1.mono (fun g _ e => .inr e)) fun _ _ e => e) hput.2.2 hput.1 (own_kp ho6' hput.2.1 (fun g hg e => by have := own_ge ho6' hg; omega))
                      (own_kp hod6 hput.2.1 (fun g hg e => by have := own_ge hod6 hg; omega)) ⟨hm13, HI.out.bn.2⟩⟩
                  clear hst6 hput hod6 ho6 ho6' hc6 hk6 hrc6 hsq hl6 HSQ HQ HB HI hc9 hf9'
                  go_wp2_with fail
                  generalize w6.setCell ⟨w.heap.size, 9, none⟩ (.slice S' m sc') = w7 at *
                  go_roundw
                  case rel => exact ⟨j + 1, by omega, by go_num, hnx⟩
                  case measure =>
                    simp [intOf]
                    omega
              · have hRn := HI.out.none HGJ.out (by simp only [rdF, hq]; rw [if_pos trivial, if_neg (by omega), if_neg hle])
                have hOz := HON.out hRn
                have HB := Lib.hid (curspans_bad _ ok s.r wr HI.out.st.cur (fun m' k' hmk => by
                  rw [hq, Option.some.injEq, Prod.mk.injEq] at hmk
                  rw [← hmk.1, ← hmk.2]
                  omega))
                clear hq hRn hc9 hf9' hle
                rw [hOz]
                clear hOz
                go_wp2_with fail
                refine HB.out.mono ?_
                rintro e w6 ⟨rfl, hk6⟩
                unfold brk brkV
                go_wp2_with fail
                refine door_panic _ w.heap.size (w.heap.size + 1) _ 0 _ _ (blk_kp HI.out.st.rcd hk6 (by omega)) (by rfl) (blk_kp HI.out.st.err hk6 (by omega)) (by omega) rfl rfl fun w' hk => readPost_zero 61 ?_
                exact (HI.out.st.nw.trans hk6 fun i hi e => by omega).trans hk fun i hi e => by omega
          · have hf8 : f < 8 := by omega
            have hcf := (HI.out.st.cell (f + 1)).1
            have hff := (HI.out.st.cell (f + 1)).2
            have HPL := Lib.hid (fun W => place_any w.heap.size f hf8 W)
            cases hq : rdN s.r with
            | none =>
              have hRn := HI.out.none HGJ.out (by simp only [rdF, hq])
              have hOz := HON.out hRn
              have HB := Lib.hid (curnum_bad _ ok s.r wr HI.out.st.cur hq)
              clear hq hRn hcf hff
              rw [hOz]
              clear hOz
              have h9f : ((f : Int) == 9) = false := by rw [beq_eq_false_iff_ne]; omega
              have h8f : ((f : Int) == 8) = false := by rw [beq_eq_false_iff_ne]; omega
              go_wp2_with fail
              refine (HPL.out wr).mono ?_
              rintro e w5 ⟨rfl, rfl⟩
              go_wp2_with fail
              refine HB.out.mono ?_
              rintro e w6 ⟨rfl, rfl⟩
              unfold brk brkV
              go_wp2_with fail
              refine door_panic _ w.heap.size (w.heap.size + 1) _ 0 _ _ HI.out.st.rcd (by rfl) HI.out.st.err (by omega) rfl rfl fun w' hk => readPost_zero 61 ?_
              exact HI.out.st.nw.trans hk fun i hi e => by omega
            | some mk =>
              obtain ⟨m, k⟩ := mk
              have HQ := Lib.hid (show rdF s f = some ⟨s.a.setN f m, s.sp, s.dt, s.r.drop k⟩ from by simp only [rdF, hq]; rw [if_neg h9, if_neg h8])
              have HB := Lib.hid (curnum_ok _ ok s.r m k wr HI.out.st.cur hq)
              have h9f : ((f : Int) == 9) = false := by rw [beq_eq_false_iff_ne]; omega
              have h8f : ((f : Int) == 8) = false := by rw [beq_eq_false_iff_ne]; omega
              clear hq hcf hff
              go_wp2_with fail
              refine (HPL.out wr).mono ?_
              rintro e w5 ⟨rfl, rfl⟩
              go_wp2_with fail
              refine HB.out.mono ?_
              rintro e w6 ⟨rfl, hc6, hk6⟩
              have hws := HI.out.st.size
              have hw6 := hk6.size
              have hos6 := own_kp HI.out.os hk6 (fun g hg e => by have := own_ge HI.out.os hg; omega)
              have hod6 := own_kp HI.out.od hk6 (fun g hg e => by have := own_ge HI.out.od hg; omega)
              have hrc6 := blk_kp HI.out.st.rcd hk6 (by omega)
              have hst6 : RdStart w w6 ok (s.r.drop k) (s.a.at_ S sc D dc).cells := ⟨hc6, hrc6, blk_kp HI.out.st.err hk6 (by omega), HI.out.st.nw.trans hk6 (fun i hi e => by omega), by omega⟩
              have hput := hst6.put HK.out (f + 1) (.int .i64 (m : Int))
              obtain ⟨x0, hcx⟩ : ∃ x0, w6.cell? ⟨w.heap.size, f + 1, none⟩ = some (.int .i64 x0) := by
                rw [(hst6.cell (f + 1)).1]
                have : f = 0 ∨ f = 1 ∨ f = 2 ∨ f = 3 ∨ f = 4 ∨ f = 5 ∨ f = 6 ∨ f = 7 := by omega
                rcases this with rfl | rfl | rfl | rfl | rfl | rfl | rfl | rfl <;> exact ⟨_, rfl⟩
              have hfx := (hst6.cell (f + 1)).2
              have hcs : ((s.a.at_ S sc D dc).cells.setIfInBounds (f + 1) (.int .i64 (m : Int))) = ((s.a.setN f m).at_ S sc D dc).cells := by
                have : f = 0 ∨ f = 1 ∨ f = 2 ∨ f = 3 ∨ f = 4 ∨ f = 5 ∨ f = 6 ∨ f = 7 := by omega
                rcases this with rfl | rfl | rfl | rfl | rfl | rfl | rfl | rfl <;> rfl
              have hsn : (s.a.setN f m).sn = s.a.sn ∧ (s.a.setN f m).dn = s.a.dn := by
                have : f = 0 ∨ f = 1 ∨ f = 2 ∨ f = 3 ∨ f = 4 ∨ f = 5 ∨ f = 6 ∨ f = 7 := by omega
                rcases this with rfl | rfl | rfl | rfl | rfl | rfl | rfl | rfl <;> exact ⟨rfl, rfl⟩
              have hnx : Hid (∃ s S sc D dc, RdInvW w (w6.setCell ⟨w.heap.size, f + 1, none⟩ (.int .i64 (m : Int))) ok l (some al) lc R (j + 1) s S sc D dc) := by
                refine ⟨_, S, sc, D, dc, HI.out.next HGJ.out HQ.out ((hk6.mono (fun g _ e => .inl e)).trans (hput.2.1.mono (fun g _ e => .inr e)) fun _ _ e => e) hput.2.2 ?_ ?_ ?_ ?_⟩
                · rw [← hcs]; exact hput.1
                · rw [hsn.1]; exact own_kp hos6 hput.2.1 (fun g hg e => by have := own_ge hos6 hg; omega)
                · rw [hsn.2]; exact own_kp hod6 hput.2.1 (fun g hg e => by have := own_ge hod6 hg; omega)
                · rw [hsn.1, hsn.2]; exact HI.out.bn
              clear hst6 hput hos6 hod6 hc6 hk6 hrc6 HQ HB HI hcs hsn
              go_wp2_with fail
              generalize w6.setCell ⟨w.heap.size, f + 1, none⟩ (.int .i64 (m : Int)) = w7 at *
              go_roundw
              case rel => exact ⟨j + 1, by omega, by go_num, hnx⟩
              case measure =>
                simp [intOf]
                omega
      · have hjl : j = l.length := by omega
        subst hjl
        have hRs := HI.out.done
        have hOs := HOS.out s hRs
        clear hRs
        have hcur := HI.out.st.cur
        obtain ⟨A1, c1, hcb1, hrd1, hcc1, hcn1, hck1⟩ := hcur
        have hcl := cell_of_row wr (w.heap.size + 1 + 1) 0 _ _ _ hcb1
        have hRI := rright_any (s.a.at_ S sc D dc) _ s.sp wr (own_slice HI.out.os) (by have := HI.out.bn.1; show s.a.sn ≤ _; omega) (by have := HI.out.bn.2; show s.a.dn ≤ _; omega)
        have HRI := Lib.hid hRI
        have hrow := HI.out.st.rcd
        have hfr : wr.frozen? ⟨w.heap.size, 0, none⟩ = false := by simp [World.frozen?, hrow]
        clear hcb1 hrd1 hRI
        have h1 : ¬ (l.length : Int) < (l.length : Int) := by omega
        by_cases hre : s.r = []
        · rw [hre] at hcl
          have hcl' : wr.cell? ⟨w.heap.size + 1 + 1, 0, none⟩ = some (.slice A1 0 c1) := hcl
          by_cases hok' : okR s.a s.sp = true
          · have hOs' : O = (s, 0) := by rw [hOs, if_pos ⟨hre, hok'⟩]
            have hok2 : okR (s.a.at_ S sc D dc) s.sp = true := hok'
            rw [hok2] at HRI
            clear hcl hre hok' hOs hok2
            subst hOs'
            go_wp2_with ((with_reducible refine opAt 58 ?_); go_loud (refine BigFrame.wpList_want (by rfl) ?_; intro K hK; refine wp_load_row 36 _ rfl w.heap.size rfl _ _ _ _ hrow Tryd.underlying36 rfl (by kernel_rfl) (hK _ _ ?_); clear hK))
            refine HRI.out.mono ?_
            rintro e w7 ⟨rfl, hnw7⟩
            have hrow7 := blk_nw hrow hnw7
            have herr7 := blk_nw HI.out.st.err hnw7
            unfold errR
            have haz : Hid ((s.a.at_ S sc D dc).cells.all (·.oneCell') = true) := by show _ = _; simp [Rc.cells, Rc.at_, Value.oneCell']
            have hiz : Hid ((Tryd.prog.info? 36).map (·.size) = some (s.a.at_ S sc D dc).cells.size) := by show _ = _; kernel_rfl
            go_wp2_with (first | ((with_reducible refine opAt 64 ?_); go_loud (refine wpList_load_row rfl 36 _ rfl w.heap.size rfl _ _ _ _ hrow7 Tryd.underlying36 rfl (by kernel_rfl) ?_)) | ((with_reducible refine stAt 36 (.tmp 2) (.tmp 64) ?_); go_loud (refine wpList_store_row rfl 36 (.tmp 2) (.tmp 64) rfl w.heap.size _ rfl rfl 36 _ hrow7 hiz.out rfl haz.out ?_; obtain ⟨hr8, hk8⟩ := row_set (cs := (s.a.at_ S sc D dc).cells) hrow7; have he8 := blk_kp herr7 hk8 (by omega); generalize World.setRow w7 w.heap.size (s.a.at_ S sc D dc).cells = w8 at *; have hf8 : w8.frozen? ⟨w.heap.size + 1, 0, none⟩ = false := (by simp [World.frozen?, he8]); have hc8 : w8.cell? ⟨w.heap.size + 1, 0, none⟩ = some (.int .i64 0) := cell_of_row w8 (w.heap.size + 1) 0 _ _ _ he8)))
            have hset := heap_setCell_same w8 (w.heap.size + 1) 0 _ _ (.int .i64 0) he8
            have hks : Kp (fun g => g = w.heap.size + 1) w8 (w8.setCell ⟨w.heap.size + 1, 0, none⟩ (.int .i64 0)) := (Kp.refl (fun g => g = w.heap.size + 1) w8).setCell (p := ⟨w.heap.size + 1, 0, none⟩) (fun _ => rfl) _
            have hr9 := blk_kp hr8 hks (by omega)
            have hkk : Kp (fun g => g = w.heap.size ∨ g = w.heap.size + 1) wr (w8.setCell ⟨w.heap.size + 1, 0, none⟩ (.int .i64 0)) :=
              Kp.kp0 hnw7 (Kp.trans (S := fun g => g = w.heap.size ∨ g = w.heap.size + 1) (hk8.mono fun k _ e => Or.inl e) (hks.mono (T := fun g => g = w.heap.size ∨ g = w.heap.size + 1) fun k _ e => Or.inr e) fun _ _ e => e)
            generalize w8.setCell ⟨w.heap.size + 1, 0, none⟩ (.int .i64 0) = w9 at *
            have hsr := HI.out.st.size
            refine door_ret _ w.heap.size (w.heap.size + 1) _ 0 _ _ hr9 (by rfl) hset rfl rfl ⟨S, sc, D, dc, rfl, ?_, ?_, HI.out.st.nw.trans hkk fun i hi e => by omega⟩
            · exact own_base (own_kp HI.out.os hkk (fun g hg e => by have := own_ge HI.out.os hg; omega)) (fun g hg => by have := own_ge HI.out.os hg; omega)
            · exact own_base (own_kp HI.out.od hkk (fun g hg e => by have := own_ge HI.out.od hg; omega)) (fun g hg => by have := own_ge HI.out.od hg; omega)
          · have hOs' : O = (⟨zeroR, [], [], []⟩, 61) := by rw [hOs, if_neg (fun h => hok' h.2)]
            have hokf : okR s.a s.sp = false := by simpa using hok'
            have hok2 : okR (s.a.at_ S sc D dc) s.sp = false := hokf
            rw [hok2] at HRI
            clear hcl hre hok' hOs hokf hok2
            subst hOs'
            go_wp2_with ((with_reducible refine opAt 58 ?_); go_loud (refine BigFrame.wpList_want (by rfl) ?_; intro K hK; refine wp_load_row 36 _ rfl w.heap.size rfl _ _ _ _ hrow Tryd.underlying36 rfl (by kernel_rfl) (hK _ _ ?_); clear hK))
            refine HRI.out.mono ?_
            rintro e w7 ⟨rfl, hnw7⟩
            unfold errR
            go_wp2_with fail
            refine door_panic _ w.heap.size (w.heap.size + 1) _ 0 _ _ (blk_nw hrow hnw7) (by rfl) (blk_nw HI.out.st.err hnw7) (by omega) rfl rfl fun w' hk => readPost_zero 61 ?_
            exact (HI.out.st.nw.nw hnw7).trans hk fun i hi e => by omega
        · have hlr : 0 < s.r.length := by
            cases hs : s.r with
            | nil => exact absurd hs hre
            | cons x y => simp
          have hOs' : O = (⟨zeroR, [], [], []⟩, 61) := by rw [hOs, if_neg (fun h => hre h.1)]
          clear hOs
          subst hOs'
          have hd1 : decide (0 < s.r.length) = true := by simpa using hlr
          have hd2 : (0 : Int) < (s.r.length : Int) := by omega
          go_wp2_with fail
          refine door_panic _ w.heap.size (w.heap.size + 1) _ 0 _ _ HI.out.st.rcd (by rfl) HI.out.st.err (by omega) rfl rfl fun w' hk => readPost_zero 61 ?_
          exact HI.out.st.nw.trans hk fun i hi e => by omega

theorem rread_any (A : Option Addr) (n c : Nat) (ok : Nat → Prop) (xs : List UInt8) (w : World) (hr : Rd w ok 1 A n (bys xs)) (hnc : n ≤ c) (hok : ∀ g, ok g → g < w.heap.size) :
    Calls Tryd.prog 36 #[.slice A n c] w (ReadPost w (rdO xs)) := by
  have hl : xs.length = n := by have := hr.len; rwa [bys_len] at this
  unfold rdO
  by_cases h : xs.length > 131072
  · rw [if_pos h]
    exact read_long A n c w (by omega)
  · rw [if_neg h]
    cases xs with
    | nil =>
      simp only [List.length_nil] at hl
      subst hl
      exact read_empty A c w
    | cons b r => exact read_some A n c ok b r w hr hnc (by omega) hok

end Go.Proofs.YtjgnapjhlhdgfaaDoor
