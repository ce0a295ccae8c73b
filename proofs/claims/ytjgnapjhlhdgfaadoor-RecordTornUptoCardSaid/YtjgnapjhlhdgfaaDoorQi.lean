/- Records: a row of records, whose lists are one's own. Memory alone. -/
import Derived.Test.YtjgnapjhlhdgfaaDoorRqh
import Derived.Test.YtjgnapjhlhdgfaaDoorOw
set_option linter.unusedVariables false
set_option linter.unusedSimpArgs false
namespace Go.Proofs.YtjgnapjhlhdgfaaDoor
open Go.RowKit

section
variable {P : Program}
theorem run_loadVar_at (w : World) (ad : Addr) (ty : TypeId) (cs : Array Value) (d : TypeDesc) (hc : ∀ (j : Nat) (v : Value), cs[j]? = some v → w.cell? (ad.add j) = some v)
    (hu : P.underlying ty = some d) (hd : (match d with | .struct _ | .array _ _ => true | _ => false) = true) (hi : (P.info? ty).map (·.size) = some cs.size) :
    (loadVar ty ad).run P w = .ok (.agg cs) w := by
  have hl : (loadCells ad cs.toList.length).run P w = .ok cs.toList.toArray w :=
    run_loadCells_list (P := P) w ad cs.toList (fun j v hv => hc j v (by simpa using hv))
  cases hq : P.info? ty with
  | none => simp [hq] at hi
  | some i =>
    have hs : i.size = cs.size := by simpa [hq] using hi
    have hagg : (isAgg ty).run P w = .ok true w := by
      unfold isAgg
      rw [Sem.run_bind, run_underlying hu w]
      cases d <;> simp_all
    simp only [Array.length_toList, Array.toArray_toList] at hl
    simp [loadVar, Sem.run_bind, hagg, sizeOf, typeInfo, hq, hs, hl]
theorem wpList_load_at {ops : Array Oper} {rest : List Oper} {o : Oper} {a : Act} {w : World} {Q : Exit → Act → World → Prop} (hgd : o.guard = none) (ty : TypeId) (x : Operand) (ho : o.op = .load ty x)
    (ad : Addr) (hx : a.eval x = .pointer (some ad)) (cs : Array Value) (d : TypeDesc) (hc : ∀ (j : Nat) (v : Value), cs[j]? = some v → w.cell? (ad.add j) = some v)
    (hu : P.underlying ty = some d) (hd : (match d with | .struct _ | .array _ _ => true | _ => false) = true) (hi : (P.info? ty).map (·.size) = some cs.size)
    (h : wpList P ops Q rest (a.put o.dst (.agg cs)) w) : wpList P ops Q (o :: rest) a w := by
  refine wpList_plain hgd fun K hK => ?_
  unfold Oper.wp execOp
  simp only [ho, hx, Instr.loadAt, Instr.sureAddr, Sem.run_bind, Sem.run_pure, Result.andThen_ok, run_loadVar_at w ad ty cs d hc hu hd hi]
  exact hK _ _ h
end

/-- The cells of a row of records. -/
def rcs (l : List Rc) : List Value := l.flatMap fun a => a.cells.toList
theorem rc_len (a : Rc) : a.cells.toList.length = 11 := rfl
theorem rcs_len (l : List Rc) : (rcs l).length = l.length * 11 := by
  induction l with
  | nil => rfl
  | cons a l ih =>
    have : rcs (a :: l) = a.cells.toList ++ rcs l := rfl
    rw [this, List.length_append, ih, rc_len, List.length_cons]
    omega
theorem rcs_app (a b : List Rc) : rcs (a ++ b) = rcs a ++ rcs b := by simp [rcs]
theorem rcs_at : ∀ {l : List Rc} {i : Nat} (h : i < l.length) (j : Nat) (v : Value), (l[i]).cells[j]? = some v → (rcs l)[i * 11 + j]? = some v
  | a :: l, 0, h, j, v, hv => by
    have e : rcs (a :: l) = a.cells.toList ++ rcs l := rfl
    have hj : j < 11 := (Array.getElem?_eq_some_iff.1 hv).1
    rw [e, List.getElem?_append_left (by rw [rc_len]; omega), show 0 * 11 + j = j from by omega]
    simpa using hv
  | a :: l, i + 1, h, j, v, hv => by
    have e : rcs (a :: l) = a.cells.toList ++ rcs l := rfl
    rw [e, List.getElem?_append_right (by rw [rc_len]; omega), rc_len, show (i + 1) * 11 + j - 11 = i * 11 + j from by omega]
    exact rcs_at (l := l) (by simpa using h) j v (by simpa using hv)
theorem Rd.rec_ {w : World} {ok : Nat → Prop} {A : Option Addr} {n i : Nat} {l : List Rc} (h : Rd w ok 11 A n (rcs l)) (hi : i < l.length) :
    ∃ ad, A = some ad ∧ ok ad.block ∧ (∀ (j : Nat) (v : Value), (l[i]).cells[j]? = some v → w.cell? ((ad.add (i * 11)).add j) = some v) ∧
      w.cell? ⟨(ad.add (i * 11)).block, (ad.add (i * 11)).off + 9, none⟩ = some (.slice l[i].S l[i].sn l[i].sc) ∧ w.cell? ⟨(ad.add (i * 11)).block, (ad.add (i * 11)).off + 10, none⟩ = some (.slice l[i].D l[i].dn l[i].dc) := by
  have hl := h.1
  rw [rcs_len] at hl
  obtain ⟨ad, hA, ho, hc⟩ := h.2 (by omega)
  have h1 : ∀ (j : Nat) (v : Value), (l[i]).cells[j]? = some v → w.cell? ((ad.add (i * 11)).add j) = some v := fun j v hv => (add_of_add ad (i * 11) j).symm ▸ hc _ _ (rcs_at hi j v hv)
  have h9 : w.cell? ((ad.add (i * 11)).add 9) = some (.slice l[i].S l[i].sn l[i].sc) := h1 9 _ rfl
  have h10 : w.cell? ((ad.add (i * 11)).add 10) = some (.slice l[i].D l[i].dn l[i].dc) := h1 10 _ rfl
  exact ⟨ad, hA, ho, h1, h9, h10⟩

/-! ### Marks -/
def MD (i : Nat) : List Value := [bv (UInt8.ofNat i)]
def MS (i : Nat) : List Value := [.int .i64 (-1 - (i : Int)), .int .i64 0]
theorem MD_one (i : Nat) : ∀ u ∈ MD i, u.oneCell' = true := by
  intro u hu
  rw [List.mem_singleton.1 hu]
  rfl
theorem MS_one (i : Nat) : ∀ u ∈ MS i, u.oneCell' = true := by
  intro u hu
  simp only [MS, List.mem_cons, List.not_mem_nil, or_false] at hu
  rcases hu with rfl | rfl <;> rfl
theorem reps_MD (n i : Nat) : bys (List.replicate n (UInt8.ofNat i)) = reps n (MD i) := by
  rw [show MD i = [bv (UInt8.ofNat i)] from rfl, reps_single]
  simp [bys]
theorem reps_MS (n i : Nat) : sps (List.replicate n (-1 - (i : Int), 0)) = reps n (MS i) := by
  induction n with
  | zero => rfl
  | succ n ih =>
    rw [List.replicate_succ]
    have e1 : sps ((-1 - (i : Int), 0) :: List.replicate n (-1 - (i : Int), 0)) = .int .i64 (-1 - (i : Int)) :: .int .i64 0 :: sps (List.replicate n (-1 - (i : Int), 0)) := rfl
    have e2 : reps (n + 1) (MS i) = MS i ++ reps n (MS i) := rfl
    rw [e1, e2, ih]
    rfl

/-! ### Two rows of lists -/
section
variable {w w1 w2 wr w' : World} {eD eS : Nat} {vsD vsS lsD lsS : List Value} {i : Nat}
/-- The lists ahead of i are full of their marks. -/
structure RO1 (eD eS : Nat) (w wr : World) (vsD vsS : List Value) (i : Nat) : Prop where
  kp : Kp (fun g => Sof vsD g ∨ Sof vsS g) w wr
  dD : ∀ j v, j < i → vsD[j]? = some v → Full wr eD (MD j) v (lenIn v)
  lD : ∀ j v, i ≤ j → vsD[j]? = some v → ∃ xs, wr.ownsRow 0 eD 1 v (lenIn v) (bys xs)
  dS : ∀ j v, j < i → vsS[j]? = some v → Full wr eS (MS j) v (lenIn v)
  lS : ∀ j v, i ≤ j → vsS[j]? = some v → ∃ xs, wr.ownsRow 0 eS 2 v (lenIn v) (sps xs)
theorem RO1.step {vD vS : Value} (h : RO1 eD eS w wr vsD vsS i) (hne : eD ≠ eS) (hvD : vsD[i]? = some vD) (hvS : vsS[i]? = some vS) (hsD : Sep vsD) (hsS : Sep vsS)
    (hk : Kp (fun g => vD.ownBlock = some g ∨ vS.ownBlock = some g) wr w') (hfD : Full w' eD (MD i) vD (lenIn vD)) (hfS : Full w' eS (MS i) vS (lenIn vS)) : RO1 eD eS w w' vsD vsS (i + 1) := by
  obtain ⟨xD, hxD⟩ := h.lD i vD (Nat.le_refl _) hvD
  obtain ⟨xS, hxS⟩ := h.lS i vS (Nat.le_refl _) hvS
  refine ⟨h.kp.trans hk fun g _ e => ?_, ?_, ?_, ?_, ?_⟩
  · rcases e with e | e
    · exact .inl ⟨vD, List.mem_of_getElem? hvD, e⟩
    · exact .inr ⟨vS, List.mem_of_getElem? hvS, e⟩
  · intro j u hj hu
    by_cases hji : j = i
    · subst hji
      rw [hvD] at hu
      injection hu with hu
      subst hu
      exact hfD
    · have hx := h.dD j u (by omega) hu
      exact hx.kp hk fun g hg e => e.elim (fun e => hsD.ne hji hu hvD hg e) (fun e => own_ty hx hxS hne hg e)
  · intro j u hj hu
    obtain ⟨xs, hx⟩ := h.lD j u (by omega) hu
    exact ⟨xs, own_kp hx hk fun g hg e => e.elim (fun e => hsD.ne (i := j) (j := i) (by omega) hu hvD hg e) (fun e => own_ty hx hxS hne hg e)⟩
  · intro j u hj hu
    by_cases hji : j = i
    · subst hji
      rw [hvS] at hu
      injection hu with hu
      subst hu
      exact hfS
    · have hx := h.dS j u (by omega) hu
      exact hx.kp hk fun g hg e => e.elim (fun e => own_ty hx hxD (Ne.symm hne) hg e) (fun e => hsS.ne hji hu hvS hg e)
  · intro j u hj hu
    obtain ⟨xs, hx⟩ := h.lS j u (by omega) hu
    exact ⟨xs, own_kp hx hk fun g hg e => e.elim (fun e => own_ty hx hxD (Ne.symm hne) hg e) (fun e => hsS.ne (i := j) (j := i) (by omega) hu hvS hg e)⟩

/-- A grown list stands for each list ahead of i. -/
structure RO2 (eD eS : Nat) (w2 wr : World) (vsD vsS lsD lsS : List Value) (i : Nat) : Prop where
  kp : Kp (fun g => Sof vsD g ∨ Sof vsS g) w2 wr
  rD : ∀ j v, vsD[j]? = some v → Full wr eD (MD j) v (lenIn v)
  rS : ∀ j v, vsS[j]? = some v → Full wr eS (MS j) v (lenIn v)
  lenD : lsD.length = i
  lenS : lsS.length = i
  gD : ∀ j u, lsD[j]? = some u → Full wr eD (MD j) u (lenIn u)
  gS : ∀ j u, lsS[j]? = some u → Full wr eS (MS j) u (lenIn u)
  aD : ∀ (j : Nat) (u : Value), lsD[j]? = some u → ∀ g, u.ownBlock = some g → (∃ v, vsD[j]? = some v ∧ v.ownBlock = some g) ∨ w2.heap.size ≤ g
  aS : ∀ (j : Nat) (u : Value), lsS[j]? = some u → ∀ g, u.ownBlock = some g → (∃ v, vsS[j]? = some v ∧ v.ownBlock = some g) ∨ w2.heap.size ≤ g
theorem RO2.start (hD : ∀ j v, vsD[j]? = some v → Full w2 eD (MD j) v (lenIn v)) (hS : ∀ j v, vsS[j]? = some v → Full w2 eS (MS j) v (lenIn v)) : RO2 eD eS w2 w2 vsD vsS [] [] 0 :=
  ⟨Kp.refl _ _, hD, hS, rfl, rfl, fun j u hu => by simp at hu, fun j u hu => by simp at hu, fun j u hu => by simp at hu, fun j u hu => by simp at hu⟩
theorem RO2.step {vD vS uD uS : Value} (h : RO2 eD eS w2 w1 vsD vsS lsD lsS i) (hne : eD ≠ eS) (hvD : vsD[i]? = some vD) (hvS : vsS[i]? = some vS) (hsD : Sep vsD) (hsS : Sep vsS)
    (hltD : ∀ g, vD.ownBlock = some g → g < w2.heap.size) (hltS : ∀ g, vS.ownBlock = some g → g < w2.heap.size)
    {Z : Nat → Prop} (hk : Kp (fun g => (vD.ownBlock = some g ∨ vS.ownBlock = some g) ∨ Z g) w1 w') (hzD : ∀ g, Z g → ∀ (us : List Value) (u : Value) (k : Nat), Full w1 eD us u k → u.ownBlock ≠ some g)
    (hzS : ∀ g, Z g → ∀ (us : List Value) (u : Value) (k : Nat), Full w1 eS us u k → u.ownBlock ≠ some g) (hz2 : ∀ g, Z g → w2.heap.size ≤ g)
    (hD : Full w' eD (MD i) vD (lenIn vD)) (hS : Full w' eS (MS i) vS (lenIn vS)) (hgD : Full w' eD (MD i) uD (lenIn uD)) (hgS : Full w' eS (MS i) uS (lenIn uS))
    (haD : ∀ g, uD.ownBlock = some g → vD.ownBlock = some g ∨ w1.heap.size ≤ g) (haS : ∀ g, uS.ownBlock = some g → vS.ownBlock = some g ∨ w1.heap.size ≤ g) :
    RO2 eD eS w2 w' vsD vsS (lsD ++ [uD]) (lsS ++ [uS]) (i + 1) := by
  have hxD := h.rD i vD hvD
  have hxS := h.rS i vS hvS
  have hs12 := h.kp.size
  refine ⟨h.kp.trans hk fun g hg e => ?_, ?_, ?_, by rw [List.length_append, h.lenD]; rfl, by rw [List.length_append, h.lenS]; rfl, ?_, ?_, ?_, ?_⟩
  · rcases e with (e | e) | e
    · exact .inl ⟨vD, List.mem_of_getElem? hvD, e⟩
    · exact .inr ⟨vS, List.mem_of_getElem? hvS, e⟩
    · have := hz2 g e
      omega
  · intro j v hv
    by_cases hji : j = i
    · subst hji
      rw [hvD] at hv
      injection hv with hv
      subst hv
      exact hD
    · have hx := h.rD j v hv
      refine hx.kp hk fun g hg e => ?_
      rcases e with (e | e) | e
      · exact hsD.ne hji hv hvD hg e
      · exact own_ty hx hxS hne hg e
      · exact hzD g e _ _ _ hx hg
  · intro j v hv
    by_cases hji : j = i
    · subst hji
      rw [hvS] at hv
      injection hv with hv
      subst hv
      exact hS
    · have hx := h.rS j v hv
      refine hx.kp hk fun g hg e => ?_
      rcases e with (e | e) | e
      · exact own_ty hx hxD (Ne.symm hne) hg e
      · exact hsS.ne hji hv hvS hg e
      · exact hzS g e _ _ _ hx hg
  · intro j u hu
    by_cases hj : j < lsD.length
    · rw [List.getElem?_append_left hj] at hu
      have hx := h.gD j u hu
      refine hx.kp hk fun g hg e => ?_
      rcases e with (e | e) | e
      · rcases h.aD j u hu g hg with ⟨v, hv, hvg⟩ | hge
        · exact hsD.ne (i := j) (j := i) (by have := h.lenD; omega) hv hvD hvg e
        · have := hltD g e
          omega
      · exact own_ty hx hxS hne hg e
      · exact hzD g e _ _ _ hx hg
    · have hjl := (List.getElem?_eq_some_iff.1 hu).1
      rw [List.length_append, List.length_singleton] at hjl
      have hji : j = i := by have := h.lenD; omega
      rw [List.getElem?_append_right (by omega), show j - lsD.length = 0 from by omega] at hu
      simp only [List.getElem?_cons_zero, Option.some.injEq] at hu
      subst hu hji
      exact hgD
  · intro j u hu
    by_cases hj : j < lsS.length
    · rw [List.getElem?_append_left hj] at hu
      have hx := h.gS j u hu
      refine hx.kp hk fun g hg e => ?_
      rcases e with (e | e) | e
      · exact own_ty hx hxD (Ne.symm hne) hg e
      · rcases h.aS j u hu g hg with ⟨v, hv, hvg⟩ | hge
        · exact hsS.ne (i := j) (j := i) (by have := h.lenS; omega) hv hvS hvg e
        · have := hltS g e
          omega
      · exact hzS g e _ _ _ hx hg
    · have hjl := (List.getElem?_eq_some_iff.1 hu).1
      rw [List.length_append, List.length_singleton] at hjl
      have hji : j = i := by have := h.lenS; omega
      rw [List.getElem?_append_right (by omega), show j - lsS.length = 0 from by omega] at hu
      simp only [List.getElem?_cons_zero, Option.some.injEq] at hu
      subst hu hji
      exact hgS
  · intro j u hu g hg
    by_cases hj : j < lsD.length
    · rw [List.getElem?_append_left hj] at hu
      exact h.aD j u hu g hg
    · have hjl := (List.getElem?_eq_some_iff.1 hu).1
      rw [List.length_append, List.length_singleton] at hjl
      have hji : j = i := by have := h.lenD; omega
      rw [List.getElem?_append_right (by omega), show j - lsD.length = 0 from by omega] at hu
      simp only [List.getElem?_cons_zero, Option.some.injEq] at hu
      subst hu hji
      rcases haD g hg with e | e
      · exact .inl ⟨vD, hvD, e⟩
      · exact .inr (by omega)
  · intro j u hu g hg
    by_cases hj : j < lsS.length
    · rw [List.getElem?_append_left hj] at hu
      exact h.aS j u hu g hg
    · have hjl := (List.getElem?_eq_some_iff.1 hu).1
      rw [List.length_append, List.length_singleton] at hjl
      have hji : j = i := by have := h.lenS; omega
      rw [List.getElem?_append_right (by omega), show j - lsS.length = 0 from by omega] at hu
      simp only [List.getElem?_cons_zero, Option.some.injEq] at hu
      subst hu hji
      rcases haS g hg with e | e
      · exact .inl ⟨vS, hvS, e⟩
      · exact .inr (by omega)
end

end Go.Proofs.YtjgnapjhlhdgfaaDoor
