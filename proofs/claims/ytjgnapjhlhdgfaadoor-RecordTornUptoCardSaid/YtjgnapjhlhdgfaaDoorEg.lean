/- How rows of records among the arguments are opened. No condition. -/
import Derived.Test.YtjgnapjhlhdgfaaDoorRr
import Derived.Test.YtjgnapjhlhdgfaaDoorEe
set_option linter.unusedVariables false
set_option linter.unusedSimpArgs false
namespace Go.Proofs.YtjgnapjhlhdgfaaDoor
open Go.RowKit Go.ChangeShapes Go.WideShapes Go.ChangeAt

theorem bulks.app {H : Type} (a b : List (DataW H)) : Rows.uptoBulkAll (a ++ b) = Rows.uptoBulkAll a + Rows.uptoBulkAll b := by
  induction a with
  | nil => simp [Rows.uptoBulkAll]
  | cons x r ih => simp only [List.cons_append, Rows.uptoBulkAll, ih]; omega
theorem rec_bulk2 {H : Type} {ys : List (DataW H)} {y z : DataW H} (hy : ys[8]? = some y) (hz : ys[9]? = some z) : dlen y + dlen z ≤ Rows.uptoBulk (.agg ys) := by
  have e : ys = ys.take 9 ++ ys.drop 9 := (List.take_append_drop 9 ys).symm
  have h1 : y ∈ ys.take 9 := List.mem_of_getElem? (i := 8) (by rw [List.getElem?_take]; simpa using hy)
  have h2 : z ∈ ys.drop 9 := List.mem_of_getElem? (i := 0) (by rw [List.getElem?_drop]; exact hz)
  have h3 := bulks.part_le h1
  have h4 := bulks.part_le h2
  have h5 := dlen_bulk y
  have h6 := dlen_bulk z
  have h7 := bulks.app (ys.take 9) (ys.drop 9)
  rw [← e] at h7
  simp only [Rows.uptoBulk]
  omega
instance : Inhabited RSt := ⟨⟨zeroR, [], [], []⟩⟩
theorem wt_le {H : Type} (D : Nat → DataW H) (q : Nat → RSt) : ∀ (n : Nat), (∀ i, i < n → (q i).a.sn + (q i).a.dn ≤ Rows.uptoBulk (D i)) → wt ((List.range n).map q) ≤ Rows.uptoBulkAll ((List.range n).map D)
  | 0, _ => by simp [wt]
  | n + 1, h => by
    have ih := wt_le D q n fun i hi => h i (by omega)
    have hn := h n (by omega)
    have e1 : wt ((List.range (n + 1)).map q) = wt ((List.range n).map q) + ((q n).a.sn + (q n).a.dn) := by
      rw [List.range_succ, List.map_append]
      simp [wt]
    have e2 : Rows.uptoBulkAll ((List.range (n + 1)).map D) = Rows.uptoBulkAll ((List.range n).map D) + Rows.uptoBulk (D n) := by
      rw [List.range_succ, List.map_append, bulks.app]
      simp [Rows.uptoBulkAll]
    omega

section
variable {H : Type} {enc : TypeId × Value → H} {w : World}
/-- A row of records that is read. -/
theorem trod_recs {fuel : Nat} {cs : List Value} {x : DataW H × List MemPlace} (h : DataW.trod enc Tryd.prog w 0 (fun _ => true) true fuel 28 cs = some x) :
    ∃ (A : Option Addr) (n c : Nat) (L : List RSt) (la : List Rc), cs = [.slice A n c] ∧ RowR w (fun _ => True) A n L la ∧ n ≤ c ∧ n ≤ Rows.uptoBulk x.1 ∧ wt L ≤ Rows.uptoBulk x.1 := by
  rcases Deep.open_slice Tryd.underlying28 h with ⟨rfl, rfl⟩ | ⟨a, len, cap, m, n, D, Pl, rfl, hb, hl, hm, hmm, rfl, hx⟩
  · exact ⟨none, 0, 0, [], [], rfl, ⟨rfl, Rd.nil_, fun i s a h => by simp at h⟩, Nat.le_refl _, Nat.zero_le _, by simp [wt]⟩
  · rw [if_pos rfl] at hmm
    subst hmm
    have ce : Tryd.prog.cellsOf 36 = 11 := by kernel_rfl
    have each : ∀ i, i < len → ∃ q : RSt, (∀ (j : Nat) (v : Value), q.a.cells[j]? = some v → w.cell? (a.add (i * 11 + j)) = some v) ∧ Rd w (fun _ => True) 2 q.a.S q.a.sn (sps q.sp) ∧ Rd w (fun _ => True) 1 q.a.D q.a.dn (bys q.dt) ∧ q.a.sn + q.a.dn ≤ Rows.uptoBulk (D i) := fun i hi => by
      obtain ⟨cs', h1, h2⟩ := hx i (by omega)
      rw [ce] at h1
      obtain ⟨_, hlen, hcell⟩ := World.cells?_some h1
      obtain ⟨b, sp, dt, y, z, rfl, r1, r2, c1, c2, d1, d2, ys, hagg, hy, hz⟩ := trod_rec h2
      simp only at hagg
      have hbk := rec_bulk2 hy hz
      rw [← hagg] at hbk
      refine ⟨⟨b, sp, dt, []⟩, fun j v hv => ?_, r1, r2, by show b.sn + b.dn ≤ _; omega⟩
      have hj : j < 11 := (Array.getElem?_eq_some_iff.1 hv).1
      have h3 := hcell j hj
      rw [add_of_add] at h3
      rw [h3]
      simpa using hv
    obtain ⟨q, hq⟩ := Deep.choose_lt each
    have hlen : ∀ {i : Nat} {s : RSt}, ((List.range len).map q)[i]? = some s → i < len ∧ s = q i := fun {i s} h => by
      have hi := (List.getElem?_eq_some_iff.1 h).1
      simp only [List.length_map, List.length_range] at hi
      rw [ofn hi] at h
      exact ⟨hi, (Option.some.inj h).symm⟩
    refine ⟨some a, len, m, (List.range len).map q, (List.range len).map fun i => (q i).a, rfl, ⟨by simp, ⟨by rw [rcs_len]; simp, fun _ => ⟨a, rfl, trivial, fun j u hu => ?_⟩⟩, fun i s b h1 h2 => ?_⟩, hl, ?_, ?_⟩
    · have hj := (List.getElem?_eq_some_iff.1 hu).1
      rw [rcs_len] at hj
      simp only [List.length_map, List.length_range] at hj
      have hd : j / 11 < len := by omega
      have hr : j % 11 < 11 := Nat.mod_lt _ (by omega)
      have he : j / 11 * 11 + j % 11 = j := by omega
      have hget : ((List.range len).map fun i => (q i).a)[j / 11]'(by simpa using hd) = (q (j / 11)).a := by simp
      have hcs : (q (j / 11)).a.cells[j % 11]? = some ((q (j / 11)).a.cells[j % 11]'hr) := Array.getElem?_eq_getElem hr
      have h1 := rcs_at (l := (List.range len).map fun i => (q i).a) (i := j / 11) (by simpa using hd) (j % 11) ((q (j / 11)).a.cells[j % 11]'hr) (by rw [hget]; exact hcs)
      have h2 := (hq (j / 11) hd).1 _ _ hcs
      rw [he] at h1 h2
      rw [h1] at hu
      rw [h2]
      exact hu
    · obtain ⟨hi, rfl⟩ := hlen h1
      rw [ofn hi] at h2
      obtain rfl := Option.some.inj h2
      obtain ⟨_, r1, r2, _⟩ := hq i hi
      exact ⟨_, _, _, _, rfl, r1, r2⟩
    · have h1 := bulks.length_le ((List.range len).map D)
      simp only [List.length_map, List.length_range] at h1
      simp only [Rows.uptoBulk]
      omega
    · have h1 := wt_le D q len fun i hi => (hq i hi).2.2.2
      simp only [Rows.uptoBulk]
      omega
end
end Go.Proofs.YtjgnapjhlhdgfaaDoor
