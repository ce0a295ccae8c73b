/- Frames: records that are lent: a row of one's own, with marks behind their lists. Memory. -/
import Derived.Test.YtjgnapjhlhdgfaaDoorEb
import Derived.Test.YtjgnapjhlhdgfaaDoorEc
import Derived.Test.YtjgnapjhlhdgfaaDoorEd
set_option linter.unusedVariables false
set_option linter.unusedSimpArgs false
namespace Go.Proofs.YtjgnapjhlhdgfaaDoor
open Go.RowKit

/-- From the place k on the marks stand behind the lists. -/
def Mk (k : Nat) (W : World) (L : List RSt) (lb : List Rc) : Prop := ∀ (i : Nat) (s : RSt) (a : Rc), k ≤ i → L[i]? = some s → lb[i]? = some a →
  ∃ gS gD bS bD, a = s.a.at_ (some ⟨gS, 0, none⟩) (s.a.sn + 2) (some ⟨gD, 0, none⟩) (s.a.dn + 2) ∧
    W.ownsRow bD 5 1 (.slice (some ⟨gD, 0, none⟩) (s.a.dn + 2) (s.a.dn + 2)) (s.a.dn + 2) (bys (s.dt ++ [177, 178])) ∧
    W.ownsRow bS 56 2 (.slice (some ⟨gS, 0, none⟩) (s.a.sn + 2) (s.a.sn + 2)) (s.a.sn + 2) (sps (s.sp ++ [(-77, 0), (-78, 0)]))
theorem Mk.kp {k : Nat} {W W' : World} {X : Nat → Prop} {L : List RSt} {lb : List Rc} (h : Mk k W L lb) (hk : Kp X W W') (hX : ∀ (i : Nat) (a : Rc), k ≤ i → lb[i]? = some a → ∀ g, (a.vD.ownBlock = some g ∨ a.vS.ownBlock = some g) → ¬ X g) : Mk k W' L lb := fun i s a hki h1 h2 => by
  obtain ⟨gS, gD, bS, bD, rfl, hD, hS⟩ := h i s a hki h1 h2
  exact ⟨gS, gD, bS, bD, rfl, own_kp hD hk (fun g hg => hX i _ hki h2 g (.inl hg)), own_kp hS hk fun g hg => hX i _ hki h2 g (.inr hg)⟩
theorem Mk.nw {k : Nat} {W W' : World} {L : List RSt} {lb : List Rc} (h : Mk k W L lb) (hk : Nw W W') : Mk k W' L lb := h.kp hk fun _ _ _ _ _ _ e => e
/-- A row of lent records. -/
structure LW (lo : Nat) (W : World) (L : List RSt) (lb : List Rc) (v : Value) : Prop where
  rws : Rws lo W.heap.size W L lb v
  mks : Mk 0 W L lb
theorem LW.nil (lo : Nat) (W : World) : LW lo W [] [] (.slice none 0 0) := ⟨Rws.nil _ _ _, fun i s a _ h => by simp at h⟩
theorem LW.nw {lo : Nat} {W W' : World} {L : List RSt} {lb : List Rc} {v : Value} (h : LW lo W L lb v) (k : Nw W W') : LW lo W' L lb v := ⟨(h.rws.nw k).wide' (Nat.le_refl _) k.size, h.mks.nw k⟩
theorem LW.snoc {lo : Nat} {W W1 W2 : World} {L : List RSt} {lb : List Rc} {v v' : Value} {s : RSt} {gS gD : Nat} (h : LW lo W L lb v) (hlo : lo ≤ W.heap.size) (hn : Nw W W1)
    (hD : W1.ownsRow W.heap.size 5 1 (.slice (some ⟨gD, 0, none⟩) (s.a.dn + 2) (s.a.dn + 2)) (s.a.dn + 2) (bys (s.dt ++ [177, 178])))
    (hS : W1.ownsRow W.heap.size 56 2 (.slice (some ⟨gS, 0, none⟩) (s.a.sn + 2) (s.a.sn + 2)) (s.a.sn + 2) (sps (s.sp ++ [(-77, 0), (-78, 0)])))
    (hw : s.sp.length = s.a.sn ∧ s.dt.length = s.a.dn) (hk : Kp (fun g => v.ownBlock = some g) W1 W2)
    (hrow : W2.ownsRow lo 36 11 v' (lb.length + 1) (rcs lb ++ (s.a.at_ (some ⟨gS, 0, none⟩) (s.a.sn + 2) (some ⟨gD, 0, none⟩) (s.a.dn + 2)).cells.toList)) :
    LW lo W2 (L ++ [s]) (lb ++ [s.a.at_ (some ⟨gS, 0, none⟩) (s.a.sn + 2) (some ⟨gD, 0, none⟩) (s.a.dn + 2)]) v' := by
  have hs1 := hn.size
  have hs2 := hk.size
  have h1 := h.rws.nw hn
  have htD : ∀ g, (Value.slice (some ⟨gD, 0, none⟩) (s.a.dn + 2) (s.a.dn + 2)).ownBlock = some g → ¬ v.ownBlock = some g := fun g hg => own_ty hD h1.row (by decide) hg
  have htS : ∀ g, (Value.slice (some ⟨gS, 0, none⟩) (s.a.sn + 2) (s.a.sn + 2)).ownBlock = some g → ¬ v.ownBlock = some g := fun g hg => own_ty hS h1.row (by decide) hg
  have hD2 := own_kp hD hk htD
  have hS2 := own_kp hS hk htS
  have hg : Got W.heap.size W2.heap.size W2 s (some ⟨gS, 0, none⟩) (s.a.sn + 2) (some ⟨gD, 0, none⟩) (s.a.dn + 2) := Got.mk' (cutS hw.1 hS2) (cutB hw.2 hD2)
  refine ⟨h1.snoc hk hg (Nat.le_refl _) hlo (Nat.le_refl _) (by omega) hrow, fun i t a _ ht ha => ?_⟩
  by_cases hil : i < L.length
  · rw [List.getElem?_append_left hil] at ht
    rw [List.getElem?_append_left (by rw [h.rws.len]; exact hil)] at ha
    obtain ⟨gS', gD', bS, bD, rfl, hD', hS'⟩ := (h.mks.nw hn) i t a (Nat.zero_le _) ht ha
    exact ⟨gS', gD', bS, bD, rfl, own_kp hD' hk (fun g hg => own_ty hD' h1.row (by decide) hg), own_kp hS' hk fun g hg => own_ty hS' h1.row (by decide) hg⟩
  · have hi2 := (List.getElem?_eq_some_iff.1 ht).1
    rw [List.length_append, List.length_singleton] at hi2
    have hie : i = L.length := by omega
    subst hie
    rw [List.getElem?_append_right (Nat.le_refl _), Nat.sub_self] at ht
    rw [List.getElem?_append_right (by rw [h.rws.len]; exact Nat.le_refl _), h.rws.len, Nat.sub_self] at ha
    simp only [List.getElem?_cons_zero, Option.some.injEq] at ht ha
    subst ht ha
    exact ⟨gS, gD, _, _, rfl, hD2, hS2⟩
/-- What the lists' owner writes. -/
def XL (lb : List Rc) : Nat → Prop := fun g => Sof (lb.map Rc.vD) g ∨ Sof (lb.map Rc.vS) g
theorem XL.of {lb : List Rc} {i : Nat} {a : Rc} (h : lb[i]? = some a) {g : Nat} (hg : a.vD.ownBlock = some g ∨ a.vS.ownBlock = some g) : XL lb g := by
  have hm := List.mem_of_getElem? h
  rcases hg with hg | hg
  · exact .inl ⟨a.vD, List.mem_map_of_mem hm, hg⟩
  · exact .inr ⟨a.vS, List.mem_map_of_mem hm, hg⟩
/-- The lists of the record k are written: the marks of those behind it stand. -/
theorem Mk.step {k : Nat} {W W' : World} {L : List RSt} {lb : List Rc} {a : Rc} (h : Mk k W L lb) (hl : lb.length = L.length) (hD : Sep (lb.map Rc.vD)) (hS : Sep (lb.map Rc.vS)) (ha : lb[k]? = some a)
    (hk : Kp (fun g => a.vD.ownBlock = some g ∨ a.vS.ownBlock = some g) W W') : Mk (k + 1) W' L lb := by
  have hkL : k < L.length := by rw [← hl]; exact (List.getElem?_eq_some_iff.1 ha).1
  obtain ⟨gS0, gD0, bS0, bD0, ha0, hD0, hS0⟩ := h k _ a (Nat.le_refl _) (List.getElem?_eq_getElem hkL) ha
  have h' : Mk (k + 1) W L lb := fun i s b hi h1 h2 => h i s b (by omega) h1 h2
  intro i s b hki h1 h2
  obtain ⟨gS, gD, bS, bD, hb, hbD, hbS⟩ := h' i s b hki h1 h2
  have m1 : (lb.map Rc.vD)[k]? = some a.vD := by rw [List.getElem?_map, ha]; rfl
  have m2 : (lb.map Rc.vD)[i]? = some b.vD := by rw [List.getElem?_map, h2]; rfl
  have m3 : (lb.map Rc.vS)[k]? = some a.vS := by rw [List.getElem?_map, ha]; rfl
  have m4 : (lb.map Rc.vS)[i]? = some b.vS := by rw [List.getElem?_map, h2]; rfl
  refine ⟨gS, gD, bS, bD, hb, own_kp hbD hk (fun g hg e => ?_), own_kp hbS hk fun g hg e => ?_⟩
  · have hg' : b.vD.ownBlock = some g := by rw [hb]; exact hg
    rcases e with e | e
    · exact hD.ne (i := k) (j := i) (by omega) m1 m2 e hg'
    · have e' : (Value.slice (some ⟨gS0, 0, none⟩) (L[k].a.sn + 2) (L[k].a.sn + 2)).ownBlock = some g := by rw [ha0] at e; exact e
      exact own_ty hbD hS0 (by decide) hg e'
  · have hg' : b.vS.ownBlock = some g := by rw [hb]; exact hg
    rcases e with e | e
    · have e' : (Value.slice (some ⟨gD0, 0, none⟩) (L[k].a.dn + 2) (L[k].a.dn + 2)).ownBlock = some g := by rw [ha0] at e; exact e
      exact own_ty hbS hD0 (by decide) hg e'
    · exact hS.ne (i := k) (j := i) (by omega) m3 m4 e hg'

/-! ### How long frames are -/
def wt (L : List RSt) : Nat := (L.map fun s => s.a.sn + s.a.dn).sum
set_option maxHeartbeats 1600000 in
theorem prR_wt {a : Rc} {sp : List (Int × Int)} {dt : List UInt8} (hok : okR a sp = true) (hs : sp.length = a.sn) (hd : dt.length = a.dn) : (prR a sp dt).length ≤ 100 + a.dn + 20 * a.sn := by
  have h := okR_f hok
  have hnum : ∀ i, i < 8 → (itm a sp dt i).length ≤ 10 := fun i hi => by
    unfold itm
    rw [if_neg (by omega), if_neg (by omega)]
    exact enc_le (by have := h.num i hi; omega)
  have h9 : 9 ∈ fds a.k → (itm a sp dt 9).length ≤ 10 + a.dn := fun hm => by
    have := h.dat hm
    have he := enc_le (n := a.dn) (by omega)
    show (enc a.dn ++ dt).length ≤ _
    rw [List.length_append]
    omega
  have h8 : 8 ∈ fds a.k → (itm a sp dt 8).length ≤ 10 + 20 * a.sn := fun hm => by
    have := h.spn hm
    have he := enc_le (n := a.sn) (by omega)
    have := spE_all (okS_all this.2)
    show (enc a.sn ++ sp.flatMap spE).length ≤ _
    rw [List.length_append]
    omega
  have n0 := hnum 0 (by omega)
  have n1 := hnum 1 (by omega)
  have n2 := hnum 2 (by omega)
  have n3 := hnum 3 (by omega)
  have n4 := hnum 4 (by omega)
  have n5 := hnum 5 (by omega)
  have n6 := hnum 6 (by omega)
  have n7 := hnum 7 (by omega)
  unfold prR
  rw [List.length_cons]
  revert h9 h8
  unfold fds
  repeat' split
  all_goals
    intro h9 h8
    simp at h9 h8 ⊢
    try omega
theorem frs_wt : ∀ {L : List RSt}, okL L = true → Wf L → (frs L).length ≤ 108 * L.length + 20 * wt L
  | [], _, _ => by simp [frs]
  | s :: l, h, hw => by
    have h1 := okL_cons h
    have h2 := hw.cons
    have h3 := frs_wt h1.2 h2.2
    have h4 := prR_wt h1.1 h2.1.1 h2.1.2
    have e : wt (s :: l) = s.a.sn + s.a.dn + wt l := rfl
    rw [frs_cons, List.length_append, fr1_len, List.length_cons, e]
    omega
theorem wt_mem {L : List RSt} {s : RSt} (h : s ∈ L) : s.a.sn + s.a.dn ≤ wt L := by
  induction L with
  | nil => cases h
  | cons t l ih =>
    have e : wt (t :: l) = t.a.sn + t.a.dn + wt l := rfl
    rw [e]
    cases h with
    | head => omega
    | tail _ h => have := ih h; omega
theorem frO_wt {L : List RSt} (hw : Wf L) : (frO L).length ≤ 108 * L.length + 20 * wt L := by
  unfold frO
  by_cases h : okL L = true
  · rw [if_pos h]; exact frs_wt h hw
  · rw [if_neg h]; simp
theorem RowR.inb {w : World} {A : Option Addr} {N : Nat} {L : List RSt} {la : List Rc} (h : RowR w (fun _ => True) A N L la) : RowR w (fun g => g < w.heap.size) A N L la :=
  ⟨h.len, h.row.inb (by omega), fun i s a h1 h2 => by
    obtain ⟨S, sc, D, dc, e, r1, r2⟩ := h.each i s a h1 h2
    exact ⟨S, sc, D, dc, e, r1.inb (by omega), r2.inb (by omega)⟩⟩
theorem cells_nw {w w' : World} {ad : Addr} {cs : Array Value} (h : ∀ (j : Nat) (v : Value), cs[j]? = some v → w.cell? (ad.add j) = some v) (hn : Nw w w') : ∀ (j : Nat) (v : Value), cs[j]? = some v → w'.cell? (ad.add j) = some v :=
  fun j v hv => (Kp.cell hn (World.block_lt_of_cell? _ _ (h j v hv)) (fun e => e)).trans (h j v hv)
theorem cells_one' (a : Rc) : ∀ u ∈ a.cells.toList, u.oneCell' = true := fun u hu => Array.all_eq_true_iff_forall_mem.1 (cells_one a) u (by simpa using hu)
end Go.Proofs.YtjgnapjhlhdgfaaDoor
