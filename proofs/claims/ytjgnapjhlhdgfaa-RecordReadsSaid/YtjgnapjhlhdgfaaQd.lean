/- Records: the reference's Read: how it begins and ends. -/
import Derived.Test.YtjgnapjhlhdgfaaQc
set_option linter.unusedVariables false
set_option linter.unusedSimpArgs false
namespace Go.Proofs.Ytjgnapjhlhdgfaa
open Go.RowKit

theorem still_load_row {P : Program} {o : Oper} {a : Act} {w : World} {K : Act → Prop} (ty : TypeId) (x : Operand) (ho : o.op = .load ty x)
    (g : Nat) (hx : a.eval x = .pointer (some ⟨g, 0, none⟩)) (t : TypeId) (cs : Array Value) (fr : Nat × Nat) (d : TypeDesc) (hg : w.heap[g]? = some (.cells cs t fr))
    (hu : P.underlying ty = some d) (hd : (match d with | .struct _ | .array _ _ => true | _ => false) = true) (hi : (P.info? ty).map (·.size) = some cs.size)
    (h : K (a.put o.dst (.agg cs))) : o.still P a w K := by
  unfold Oper.still execOp
  simp only [ho, hx, Instr.loadAt, Instr.sureAddr, Sem.run_bind, Sem.run_pure, Result.andThen_ok, run_loadVar_row w g t ty cs fr d hg hu hd hi]
  exact ⟨rfl, h⟩

theorem rref_results (fr : Array Value) (b2 : Nat) (C : Array Value) (x : Int) (w : World) (hC : C.size = 11)
    (ht2 : fr.getD 2 undef = .pointer (some ⟨b2, 0, none⟩)) (ht3 : fr.getD 3 undef = .int .i64 x) (h2 : w.heap[b2]? = some (.cells C 27 (0, 0))) :
    (results Try.f16 fr).run Try.prog w = .ok (.tuple #[.agg C, .int .i64 x]) w := by
  have hl := run_loadVar_row (P := Try.prog) w b2 27 27 C (0, 0) _ h2 Try.underlying27 rfl (by rw [hC]; kernel_rfl)
  have ht2' : fr[2]?.getD undef = .pointer (some ⟨b2, 0, none⟩) := by simpa using ht2
  have ht3' : fr[3]?.getD undef = .int .i64 x := by simpa using ht3
  simp [results, Try.results16, ht2', ht3', asAddr, hl]

set_option maxRecDepth 100000 in
set_option maxHeartbeats 3200000 in
theorem refread_long (A : Option Addr) (n c : Nat) (w : World) (hn : 131072 < n) : Calls Try.prog 16 #[.slice A n c] w (ReadPost w (⟨zeroR, [], [], []⟩, 2)) := by
  have h1 : (131072 : Int) < (n : Int) := by omega
  go_enter Try.func16, Try.ntmps16
  go_wp2
  exact ⟨rfl, _, rref_results _ w.heap.size zeroC 2 _ (by kernel_rfl) rfl rfl (heap_alloc_new _ _), readPost_zero 2 ((Kp.refl _ w).alloc _)⟩

set_option maxRecDepth 100000 in
set_option maxHeartbeats 3200000 in
theorem refread_empty (A : Option Addr) (c : Nat) (w : World) : Calls Try.prog 16 #[.slice A 0 c] w (ReadPost w (⟨zeroR, [], [], []⟩, 61)) := by
  go_enter Try.func16, Try.ntmps16
  go_wp2
  exact ⟨rfl, _, rref_results _ w.heap.size zeroC 61 _ (by kernel_rfl) rfl rfl (heap_alloc_new _ _), readPost_zero 61 ((Kp.refl _ w).alloc _)⟩

theorem rdP_min : ∀ (m : Nat) {xs : List UInt8} {l : List (Int × Int)} {r : List UInt8}, rdP m xs = some (l, r) → m ≤ xs.length
  | 0, xs, l, r, h => Nat.zero_le _
  | m + 1, xs, l, r, h => by
    simp only [rdP] at h
    split at h
    · cases h
    · rename_i f k hk
      split at h
      · cases h
      · rename_i n k2 hk2
        split at h
        · cases h
        · rename_i l' r' hr
          have h1 := rdP_min m hr
          have := (rdN_some hk).2.1
          have h3 := (rdN_some hk).2.2.1
          simp only [List.length_drop] at h1
          omega
theorem setN_k (a : Rc) (f : Nat) (x : Int) : (a.setN f x).k = a.k := by
  unfold Rc.setN
  split <;> rfl
theorem setN_sn (a : Rc) (f : Nat) (x : Int) : (a.setN f x).sn = a.sn ∧ (a.setN f x).dn = a.dn := by
  unfold Rc.setN
  split <;> exact ⟨rfl, rfl⟩
theorem setN_at (a : Rc) (f : Nat) (x : Int) (S : Option Addr) (sc : Nat) (D : Option Addr) (dc : Nat) : (a.at_ S sc D dc).setN f x = (a.setN f x).at_ S sc D dc := by
  unfold Rc.setN
  split <;> rfl
/-- A span that ends too far spoils the whole. -/
theorem doomed {k : Int} {j : Nat} {s1 s' : RSt} (hl : (fds k)[j]? = some 8) (hk : s1.a.k = k) (hb : ∃ x ∈ s1.sp, (4611686018427387903 : Int) < x.2) (h : rdL ((fds k).drop (j + 1)) s1 = some s') : okR s'.a s'.sp = false := by
  have hm : 8 ∈ fds k := List.mem_of_getElem? hl
  have hk11 := fds_eight hm
  subst hk11
  have e : fds 11 = [6, 8] := rfl
  rw [e] at hl h
  have hj : j = 1 := by
    match j, hl with
    | 0, hl => cases hl
    | 1, _ => rfl
    | j + 2, hl => cases hl
  subst hj
  simp only [List.drop_succ_cons, List.drop_zero, rdL, Option.some.injEq] at h
  subst h
  by_cases hok : okR s1.a s1.sp = true
  · have := (okR_f hok).spn (by rw [hk]; exact hm)
    obtain ⟨x, hx, hlt⟩ := hb
    have := okS_all this.2 x hx
    omega
  · simpa using hok

end Go.Proofs.Ytjgnapjhlhdgfaa
