/- What is its owner's: rows that lie in blocks of their own, each written full with a mark, then grown. Memory alone; no program in sight. -/
import Derived.Test.YtjgnapjhlhdgfaaDoorWd
set_option linter.unusedVariables false
set_option linter.unusedSimpArgs false
namespace Go.Proofs.YtjgnapjhlhdgfaaDoor
open Go.RowKit

/-! ### append, told apart: in place, or in a new block while nothing old turns -/
/-- What an append of m elements leaves. -/
def AppS (w w' : World) (v v' : Value) (n m : Nat) : Prop :=
  (∃ g cap, v = .slice (some ⟨g, 0, none⟩) n cap ∧ v' = .slice (some ⟨g, 0, none⟩) (n + m) cap ∧ Kp (fun k => k = g) w w') ∨
  (v'.ownBlock = some w.heap.size ∧ Nw w w') ∨ (v' = v ∧ w' = w ∧ m = 0)
theorem AppS.kp {w w' : World} {v v' : Value} {n m : Nat} (h : AppS w w' v v' n m) : Kp (fun g => v.ownBlock = some g) w w' := by
  rcases h with ⟨g, cap, rfl, _, hk⟩ | ⟨_, hk⟩ | ⟨_, rfl, _⟩
  · exact hk.mono fun k _ e => by rw [e]; rfl
  · exact hk.mono fun k _ e => e.elim
  · exact Kp.refl _ _
theorem AppS.at_ {w w' : World} {v v' : Value} {n m : Nat} (h : AppS w w' v v' n m) : OwnAt w v v' := by
  rcases h with ⟨g, cap, rfl, rfl, hk⟩ | ⟨h, _⟩ | ⟨rfl, _, _⟩
  · exact .inl rfl
  · exact .inr ⟨_, h, Nat.le_refl _⟩
  · exact .inl rfl

section
variable {P : Program} (w : World)
theorem run_appS (base : Nat) (t ty e : TypeId) {z : Value} {size bytes : Nat} (ei : Elem P t e z size bytes)
    (v : Value) (n : Nat) (xs : List Value) (hown : w.ownsRow base e size v n xs)
    (ok : Nat → Prop) (A : Option Addr) (m c : Nat) (news : List Value) (hr : Rd w ok size A m news) (h1 : ∀ u ∈ news, u.oneCell' = true)
    (h63 : n + m ≤ maxLen) (hbytes : (n + m) * bytes ≤ 140737488355328) (hbase : base ≤ w.heap.size) :
    ∃ v' w', (Builtin.append_ #[t, t] ty #[v, .slice A m c]).run P w = .ok v' w' ∧ w'.ownsRow base e size v' (n + m) (xs ++ news) ∧ AppS w w' v v' n m := by
  obtain ⟨i, hi, hz, hsz, hby⟩ := info_parts ei.info
  by_cases hm : m = 0
  · subst hm
    have hn : news = [] := List.eq_nil_of_length_eq_zero (by simpa using hr.1)
    subst hn
    refine ⟨v, w, ?_, by simpa using hown, .inr (.inr ⟨rfl, rfl, rfl⟩)⟩
    have hfc : ∀ A : Option Addr, (Builtin.firstCells i.size 0 (.slice A 0 c)).run P w = .ok #[] w := fun A => by
      cases A with
      | none => simp [Builtin.firstCells]
      | some ad => exact run_firstCells_some (P := P) w i.size 0 ad 0 c [] (by simp) (by simp)
    rcases hown.2 with ⟨rfl, rfl⟩ | ⟨g, cap, cur, rfl, _, _, hnc, _⟩
    · simp [Builtin.append_, run_underlying ei.ht, sizeOf, typeInfo, hi, Builtin.lenOf, hfc]
    · simp [Builtin.append_, run_underlying ei.ht, sizeOf, typeInfo, hi, Builtin.lenOf, hfc, hnc, storeCells]
  · obtain ⟨ad, hA, _, hcells⟩ := hr.2 (by omega)
    subst hA
    rcases hown.2 with ⟨rfl, rfl⟩ | ⟨g, cap, cur, rfl, hbg, hg, hnc, hcm, hcs, htake⟩
    · have hx : xs = [] := List.eq_nil_of_length_eq_zero (by simpa using hown.1)
      subst hx
      have hr' := run_append_nil (P := P) w t ty e i z ei.ht hi hz ad m c news (by rw [hsz]; exact hr.1) hcells (by omega) (by simp only [maxLen] at h63; omega) (by rw [hby]; have hb := hbytes; simp only [Nat.zero_add] at hb; omega)
      obtain ⟨v', w', hrun, h2, h3, _, h5⟩ := run_append_own_at (P := P) w base t ty e i z size bytes ei.ht hi hz hsz hby ei.zs ei.pos (.slice none 0 0) 0 [] hown ad m c news hr.1 hcells h1 h63 hbytes hbase
      have h3' : Nw w w' := (Kp.of_row h3).mono fun k _ e => by simp [Value.ownBlock] at e
      refine ⟨v', w', hrun, h2, .inr (.inl ⟨?_, h3'⟩)⟩
      rcases h5 with h5 | h5
      · rcases h2.2 with ⟨_, h0⟩ | ⟨g, cap, cur, rfl, _⟩
        · omega
        · simp [Value.ownBlock] at h5
      · exact h5
    · have holds : ∀ j u, xs[j]? = some u → w.cell? ((⟨g, 0, none⟩ : Addr).add j) = some u := hown.cells (g := g) rfl
      by_cases hroom : n + m ≤ cap
      · have hfit : n * i.size + news.length ≤ cur.size := by rw [hr.1, hcs, hsz, ← Nat.add_mul]; exact Nat.mul_le_mul_right _ hroom
        have hr' := run_append_room (P := P) w t ty e i ei.ht hi g n cap cur hg ad m c news (by rw [hsz]; exact hr.1) hcells h1 hroom hfit
        have hlen : (xs ++ news).length = (n + m) * size := by rw [List.length_append, hown.1, hr.1, Nat.add_mul]
        refine ⟨_, _, hr', ⟨hlen, .inr ⟨g, cap, _, rfl, hbg, setRow_heap w g cur _ e _ hg, hroom, hcm, ?_, ?_⟩⟩, .inl ⟨g, cap, rfl, rfl, ⟨rfl, rfl, rfl, by simp, fun k _ hk => setRow_other w g k _ hk⟩⟩⟩
        · simp only [List.size_toArray, List.length_append, List.length_take, List.length_drop, Array.length_toList]
          omega
        · rw [hsz, htake, ← hlen]
          exact List.take_left
      · obtain ⟨v', w', hrun, h2, h3⟩ := run_append_arg_grows (P := P) w t ty e i z size bytes ei.ht hi hz hsz hby ei.zs ei.pos ⟨g, 0, none⟩ n cap xs hown.1 holds ad m c news hr.1 hcells (by omega) h63 hbytes
        refine ⟨v', w', hrun, own_base h2 (fun k hk => by have := own_ge h2 hk; omega), .inr (.inl ⟨?_, (Kp.of_grown h3).mono fun k _ e => by simp at e⟩)⟩
        have hrg := run_append_grow (P := P) w t ty e i z ei.ht hi hz ⟨g, 0, none⟩ n cap xs (by rw [hsz]; exact hown.1) holds ad m c news (by rw [hsz]; exact hr.1) hcells (by omega) (by simp only [maxLen] at h63; omega) (by rw [hby]; exact growslice_fits (by omega) hbytes)
        rw [hrun] at hrg
        injection hrg with e1 e2
        rw [e1]
        rfl

theorem wpList_appS {ops : Array Oper} {rest : List Oper} {o : Oper} {a : Act} {Q : Exit → Act → World → Prop} (hgd : o.guard = none) (s x : Operand) (t e : TypeId)
    (ho : o.op = .call { callee := .builtin .append, args := #[s, x], argTypes := #[t, t] }) {z : Value} {size bytes : Nat} (ei : Elem P t e z size bytes)
    (base : Nat) (v : Value) (n : Nat) (xs : List Value) (hown : w.ownsRow base e size v n xs) (hs : a.eval s = v)
    (ok : Nat → Prop) (A : Option Addr) (m c : Nat) (news : List Value) (hr : Rd w ok size A m news) (hx : a.eval x = .slice A m c) (h1 : ∀ u ∈ news, u.oneCell' = true)
    (h63 : n + m ≤ maxLen) (hbytes : (n + m) * bytes ≤ 140737488355328) (hbase : base ≤ w.heap.size)
    (h : ∀ v' w', w'.ownsRow base e size v' (n + m) (xs ++ news) → AppS w w' v v' n m → wpList P ops Q rest (a.put o.dst v') w') : wpList P ops Q (o :: rest) a w := by
  obtain ⟨v', w', hrun, h2, h3⟩ := run_appS (P := P) w base t o.type e ei v n xs hown ok A m c news hr h1 h63 hbytes hbase
  refine wpList_plain hgd fun K hK => ?_
  unfold Oper.wp execOp
  simp only [ho, resolve, invoke, builtin, Sem.run_bind, Sem.run_pure, Result.andThen_ok, List.map_toArray, List.map_cons, List.map_nil, hs, hx, hrun]
  exact hK _ _ (h v' w' h2 h3)
end

/-! ### Rows that are full of one mark -/
/-- n times the cells of a mark. -/
def reps (n : Nat) (us : List Value) : List Value := (List.replicate n us).flatten
theorem reps_len (n : Nat) (us : List Value) : (reps n us).length = n * us.length := by simp [reps]
theorem reps_add (n m : Nat) (us : List Value) : reps n us ++ reps m us = reps (n + m) us := by
  unfold reps
  rw [← List.flatten_append, List.replicate_append_replicate]
theorem reps_take (n k : Nat) (us : List Value) (h : k ≤ n) : (reps n us).take (k * us.length) = reps k us := by
  have e : n = k + (n - k) := by omega
  rw [e, ← reps_add, List.take_left' (reps_len k us)]
theorem reps_one (n : Nat) (us : List Value) (h : ∀ u ∈ us, u.oneCell' = true) : ∀ u ∈ reps n us, u.oneCell' = true := by
  intro u hu
  obtain ⟨l, hl, hu⟩ := List.mem_flatten.1 hu
  rw [List.eq_of_mem_replicate hl] at hu
  exact h u hu
theorem reps_single (u : Value) (n : Nat) : reps n [u] = List.replicate n u := by
  induction n with
  | zero => rfl
  | succ n ih =>
    have : reps (n + 1) [u] = [u] ++ reps n [u] := rfl
    rw [this, ih, List.replicate_succ]
    rfl

/-- v is a row of one's own of n elements, each the mark. -/
def Full (w : World) (e : Nat) (us : List Value) (v : Value) (n : Nat) : Prop := w.ownsRow 0 e us.length v n (reps n us)
section
variable {w w' : World} {e n m k : Nat} {us : List Value} {u v v' : Value}
theorem Full.kp {S : Nat → Prop} (h : Full w e us v n) (hk : Kp S w w') (hn : ∀ g, v.ownBlock = some g → ¬ S g) : Full w' e us v n := own_kp h hk hn
theorem Full.nw (h : Full w e us v n) (hk : Nw w w') : Full w' e us v n := own_nw h hk
theorem Full.lt (h : Full w e us v n) {g : Nat} (hg : v.ownBlock = some g) : g < w.heap.size := own_lt h hg
/-- What else is full of that mark stays so behind an append of marks to it. -/
theorem Full.append (hu : Full w e us u k) (hv : Full w e us v n) (hv' : Full w' e us v' (n + m)) (hs : 0 < us.length) (ha : AppS w w' v v' n m) (hk : k ≤ n + m) : Full w' e us u k := by
  rcases ha with ⟨g, cap, rfl, rfl, hkp⟩ | ⟨_, hnw⟩ | ⟨rfl, rfl, rfl⟩
  · by_cases hb : u.ownBlock = some g
    · rcases hu.2 with ⟨rfl, _⟩ | ⟨g', cap', cur, rfl, _, hg, _, _, hcs, _⟩
      · simp [Value.ownBlock] at hb
      · have hgg : g' = g := by simpa [Value.ownBlock] using hb
        subst hgg
        rcases hv.2 with ⟨he, _⟩ | ⟨g2, cap2, cur2, he, _, hg2, _, _, hcs2, _⟩
        · simp at he
        · simp only [Value.slice.injEq, Option.some.injEq, Addr.mk.injEq, and_true, true_and] at he
          obtain ⟨rfl, rfl⟩ := he
          rw [hg] at hg2
          injection hg2 with hg2
          injection hg2 with hcur _
          subst hcur
          have hcap : cap' = cap := Nat.eq_of_mul_eq_mul_right hs (hcs.symm.trans hcs2)
          subst hcap
          have := own_take hv' hk (by simp)
          rwa [reps_take _ _ _ hk] at this
    · exact hu.kp hkp fun k hk e => hb (by rw [hk, e])
  · exact hu.nw hnw
  · exact hu
end

/-- Rows of other element types lie in other blocks. -/
theorem own_ty {w : World} {b e s n b' e' s' n' : Nat} {u v : Value} {xs ys : List Value} (h : w.ownsRow b e s u n xs) (h' : w.ownsRow b' e' s' v n' ys) (hne : e ≠ e') {g : Nat} (hg : u.ownBlock = some g) : v.ownBlock ≠ some g := by
  intro hg'
  rcases h.2 with ⟨rfl, _⟩ | ⟨a, cap, cur, rfl, _, hh, _⟩
  · simp [Value.ownBlock] at hg
  · rcases h'.2 with ⟨rfl, _⟩ | ⟨a', cap', cur', rfl, _, hh', _⟩
    · simp [Value.ownBlock] at hg'
    · have e1 : a = g := by simpa [Value.ownBlock] using hg
      have e2 : a' = g := by simpa [Value.ownBlock] using hg'
      subst e1
      subst e2
      rw [hh] at hh'
      injection hh' with hh'
      injection hh' with _ hh'
      exact hne hh'

/-! ### Several rows, no two of which share a block -/
def Sep (vs : List Value) : Prop := ∀ i j : Nat, i < j → ∀ v : Value, vs[j]? = some v → ∀ u : Value, vs[i]? = some u → ∀ g : Nat, u.ownBlock = some g → v.ownBlock ≠ some g
theorem Sep.ne {vs : List Value} (h : Sep vs) {i j : Nat} (hij : i ≠ j) {u v : Value} (hu : vs[i]? = some u) (hv : vs[j]? = some v) {g : Nat} (hg : u.ownBlock = some g) : v.ownBlock ≠ some g := by
  rcases Nat.lt_or_gt_of_ne hij with hlt | hgt
  · exact h i j hlt v hv u hu g hg
  · intro e
    exact h j i hgt u hu v hv g e hg
theorem Sep.nil : Sep [] := fun i j _ v hv => by simp at hv
theorem Sep.snoc {vs : List Value} {v : Value} (h : Sep vs) (hv : ∀ u ∈ vs, ∀ g, u.ownBlock = some g → v.ownBlock ≠ some g) : Sep (vs ++ [v]) := by
  intro i j hij x hx u hu g hg
  by_cases hj : j < vs.length
  · rw [List.getElem?_append_left hj] at hx
    rw [List.getElem?_append_left (by omega)] at hu
    exact h i j hij x hx u hu g hg
  · have hlen := (List.getElem?_eq_some_iff.1 hx).1
    simp at hlen
    have e : j = vs.length := by omega
    subst e
    simp at hx
    subst hx
    rw [List.getElem?_append_left hij] at hu
    exact hv u (List.mem_of_getElem? hu) g hg

/-! ### The rows and what was grown out of them -/
/-- The rows' blocks. -/
def Sof (vs : List Value) : Nat → Prop := fun g => ∃ v ∈ vs, v.ownBlock = some g
/-- What the first phase knows: the rows ahead of i are full of their marks, the others are one's own still. -/
structure Own1 (w wr : World) (e : Nat) (vs : List Value) (M : Nat → List Value) (i : Nat) : Prop where
  kp : Kp (Sof vs) w wr
  done : ∀ j v, j < i → vs[j]? = some v → Full wr e (M j) v (lenIn v)
  left : ∀ j v, i ≤ j → vs[j]? = some v → ∃ xs, wr.ownsRow 0 e (M j).length v (lenIn v) xs
theorem Own1.step {w wr w' : World} {e i : Nat} {vs : List Value} {M : Nat → List Value} {v : Value} (h : Own1 w wr e vs M i) (hv : vs[i]? = some v) (hs : Sep vs)
    (hk : Kp (fun g => v.ownBlock = some g) wr w') (hf : Full w' e (M i) v (lenIn v)) : Own1 w w' e vs M (i + 1) := by
  refine ⟨h.kp.trans hk fun g _ e => ⟨v, List.mem_of_getElem? hv, e⟩, ?_, ?_⟩
  · intro j u hj hu
    by_cases hji : j = i
    · subst hji
      rw [hv] at hu
      injection hu with hu
      subst hu
      exact hf
    · exact (h.done j u (by omega) hu).kp hk fun g hg e => hs.ne (i := j) (j := i) hji hu hv hg e
  · intro j u hj hu
    obtain ⟨xs, hx⟩ := h.left j u (by omega) hu
    exact ⟨xs, own_kp hx hk fun g hg e => hs.ne (i := j) (j := i) (by omega) hu hv hg e⟩

/-- What the second phase knows: q grown rows stand for each row ahead of i. -/
structure Own2 (w2 wr : World) (e : Nat) (vs ls : List Value) (M : Nat → List Value) (q i : Nat) : Prop where
  kp : Kp (Sof vs) w2 wr
  rows : ∀ j v, vs[j]? = some v → Full wr e (M j) v (lenIn v)
  len : ls.length = q * i
  long : ∀ j u, ls[j]? = some u → Full wr e (M (j / q)) u (lenIn u)
  at_ : ∀ j u, ls[j]? = some u → ∀ g, u.ownBlock = some g → (∃ v, vs[j / q]? = some v ∧ v.ownBlock = some g) ∨ w2.heap.size ≤ g
theorem Own2.start {w2 : World} {e : Nat} {vs : List Value} {M : Nat → List Value} {q : Nat} (h : ∀ j v, vs[j]? = some v → Full w2 e (M j) v (lenIn v)) : Own2 w2 w2 e vs [] M q 0 :=
  ⟨Kp.refl _ _, h, by simp, fun j u hu => by simp at hu, fun j u hu => by simp at hu⟩
theorem Own2.step {w2 w1 w' : World} {e q i : Nat} {vs ls es : List Value} {M : Nat → List Value} {r : Value} (h : Own2 w2 w1 e vs ls M q i) (hr : vs[i]? = some r) (hs : Sep vs)
    (h2 : ∀ j v, vs[j]? = some v → Full w2 e (M j) v (lenIn v)) (hq : es.length = q) {Z : Nat → Prop} (hk : Kp (fun g => r.ownBlock = some g ∨ Z g) w1 w') (hz : ∀ g, Z g → ∀ (us : List Value) (u : Value) (k : Nat), Full w1 e us u k → u.ownBlock ≠ some g) (hz2 : ∀ g, Z g → w2.heap.size ≤ g) (hrf : Full w' e (M i) r (lenIn r))
    (hes : ∀ u ∈ es, Full w' e (M i) u (lenIn u) ∧ ∀ g, u.ownBlock = some g → r.ownBlock = some g ∨ w1.heap.size ≤ g) : Own2 w2 w' e vs (ls ++ es) M q (i + 1) := by
  have hls := h.len
  have hdiv : ∀ j, q * i ≤ j → j < q * i + q → j / q = i := fun j h1 h2 => by
    have hq0 : 0 < q := by
      rcases Nat.eq_zero_or_pos q with h0 | h0
      · rw [h0] at h1 h2; omega
      · exact h0
    apply Nat.div_eq_of_lt_le
    · rw [Nat.mul_comm]; exact h1
    · rw [Nat.add_mul, Nat.one_mul, Nat.mul_comm i q]; exact h2
  have hdlt : ∀ j, j < q * i → j / q < i := fun j h1 => by
    apply Nat.div_lt_of_lt_mul
    exact h1
  refine ⟨h.kp.trans hk fun g hg e => ?_, ?_, ?_, ?_, ?_⟩
  · rcases e with e | e
    · exact ⟨r, List.mem_of_getElem? hr, e⟩
    · have := hz2 g e
      omega
  · intro j v hv
    by_cases hji : j = i
    · subst hji
      rw [hr] at hv
      injection hv with hv
      subst hv
      exact hrf
    · refine (h.rows j v hv).kp hk fun g hg e => ?_
      rcases e with e | e
      · exact hs.ne (i := j) (j := i) hji hv hr hg e
      · exact hz g e _ _ _ (h.rows j v hv) hg
  · rw [List.length_append, hls, hq, Nat.mul_add, Nat.mul_one]
  · intro j u hu
    have hjl := (List.getElem?_eq_some_iff.1 hu).1
    rw [List.length_append, hls, hq] at hjl
    by_cases hj : j < q * i
    · rw [List.getElem?_append_left (by omega)] at hu
      refine (h.long j u hu).kp hk fun g hg e => ?_
      rcases e with e | e
      · rcases h.at_ j u hu g hg with ⟨v, hv, hvg⟩ | hge
        · exact hs.ne (i := j / q) (j := i) (by have := hdlt j hj; omega) hv hr hvg e
        · have := (h2 i r hr).lt e
          omega
      · exact hz g e _ _ _ (h.long j u hu) hg
    · rw [List.getElem?_append_right (by omega)] at hu
      rw [hdiv j (by omega) hjl]
      exact (hes u (List.mem_of_getElem? hu)).1
  · intro j u hu g hg
    have hjl := (List.getElem?_eq_some_iff.1 hu).1
    rw [List.length_append, hls, hq] at hjl
    by_cases hj : j < q * i
    · rw [List.getElem?_append_left (by omega)] at hu
      exact h.at_ j u hu g hg
    · rw [List.getElem?_append_right (by omega)] at hu
      rw [hdiv j (by omega) hjl]
      rcases (hes u (List.mem_of_getElem? hu)).2 g hg with h' | h'
      · exact .inl ⟨r, hr, h'⟩
      · exact .inr (Nat.le_trans h.kp.size h')
theorem lenIn_own {w : World} {base e size n : Nat} {v : Value} {xs : List Value} (h : w.ownsRow base e size v n xs) : lenIn v = n := by
  obtain ⟨A, c, rfl, _⟩ := own_read h
  rfl
theorem OwnAt.in_ {W W' : World} {r u : Value} (h : OwnAt W r u) (hs : W'.heap.size ≤ W.heap.size) : ∀ g, u.ownBlock = some g → r.ownBlock = some g ∨ W'.heap.size ≤ g := by
  intro g hg
  rcases h with h | ⟨g', h, hge⟩
  · exact .inl (h ▸ hg)
  · rw [h] at hg
    injection hg with hg
    exact .inr (by omega)

end Go.Proofs.YtjgnapjhlhdgfaaDoor
