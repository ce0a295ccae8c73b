/- How this seat's arguments are opened: a reading's size, and slices of bytes and of words as lists. No condition. -/
import Derived.Test.YtjgnapjhlhdgfaaDoorRows
import Derived.Test.YtjgnapjhlhdgfaaDoorWd
import Derived.ProofKit
import Derived.OpenShut
import Derived.ShutString
import Derived.ChangeOld
import Derived.JoinedCond
import Derived.SizedLaws
set_option linter.unusedVariables false
set_option linter.unusedSimpArgs false
namespace Go.Proofs.YtjgnapjhlhdgfaaDoor
open Go.RowKit Go.ChangeShapes Go.WideShapes Go.ChangeAt

/-! ### A reading's size -/
namespace bulks
theorem one_le {H : Type} (d : DataW H) : 1 ≤ Rows.uptoBulk d := by
  cases d with
  | lit l => cases l <;> simp [Rows.uptoBulk]
  | nil => simp [Rows.uptoBulk]
  | ptr d => simp [Rows.uptoBulk]
  | slice elems spare => simp [Rows.uptoBulk]
  | agg parts => simp [Rows.uptoBulk]
  | iface t d => simp [Rows.uptoBulk]
  | map entries => simp [Rows.uptoBulk]
  | held h => simp [Rows.uptoBulk]
theorem part_le {H : Type} {d : DataW H} {l : List (DataW H)} (h : d ∈ l) : Rows.uptoBulk d ≤ Rows.uptoBulkAll l := by
  induction l with
  | nil => cases h
  | cons x r ih =>
    simp only [Rows.uptoBulkAll]
    cases List.mem_cons.1 h with
    | inl e => subst e; omega
    | inr e => have := ih e; omega
theorem length_le {H : Type} (l : List (DataW H)) : l.length ≤ Rows.uptoBulkAll l := by
  induction l with
  | nil => simp [Rows.uptoBulkAll]
  | cons x r ih => have := one_le x; simp only [Rows.uptoBulkAll, List.length_cons]; omega
theorem bound {H : Type} {l : List (DataW H)} (hk : Rows.uptoSmall H l = true) : Rows.uptoBulkAll l ≤ 1048576 := of_decide_eq_true hk
end bulks

/-- How many places a slice's reading has. -/
def dlen {H : Type} : DataW H → Nat
  | .slice elems spare => elems.length + spare.length
  | _ => 0
theorem dlen_bulk {H : Type} (d : DataW H) : dlen d ≤ Rows.uptoBulk d := by
  cases d with
  | slice elems spare =>
    have h1 := bulks.length_le elems
    have h2 := bulks.length_le spare
    simp only [dlen, Rows.uptoBulk]
    omega
  | _ => simp [dlen]
theorem dlen_sized {H : Type} {P : Program} {ts : List TypeId} {ds : List (DataW H)} (h : (DataW.weightsEach P ts ds).all (· ≤ reachBytes) = true) {j : Nat} {t e : TypeId} {d : DataW H}
    (ht : ts[j]? = some t) (hd : ds[j]? = some d) (hu : P.underlying t = some (.slice e)) : dlen d * P.bytesOf e ≤ 140737488351232 := by
  cases d with
  | slice elems spare => exact sized_slice h ht hd hu
  | _ => simp [dlen]

section
variable {H : Type} {enc : TypeId × Value → H} {P : Program} {w : World}
theorem len_lits {k : IntKind} (zs : List Int) : (lits (H := H) k zs).length = zs.length := by simp [lits]

theorem u8_of_wf {n : Int} (h : (Lit.int .u8 n).wf = true) : 0 ≤ n ∧ n < 256 := by
  have : 0 ≤ n ∧ n ≤ 255 := by simpa [Lit.wf, IntKind.min, IntKind.max, IntKind.signed, IntKind.bits] using h
  omega
theorem u64_of_wf {n : Int} (h : (Lit.int .u64 n).wf = true) : 0 ≤ n ∧ n < 18446744073709551616 := by
  have : 0 ≤ n ∧ n ≤ 18446744073709551615 := by simpa [Lit.wf, IntKind.min, IntKind.max, IntKind.signed, IntKind.bits] using h
  omega
theorem i64_of_wf {n : Int} (h : (Lit.int .i64 n).wf = true) : -9223372036854775808 ≤ n ∧ n ≤ 9223372036854775807 := by
  simpa [Lit.wf, IntKind.min, IntKind.max, IntKind.signed, IntKind.bits] using h

theorem open_row {t e : TypeId} {k : IntKind} (ht : P.underlying t = some (.slice e)) (he : P.underlying e = some (.int k)) (hc : P.cellsOf e = 1)
    {a : Option Addr} {len cap : Nat} {d : DataW H} {p : List MemPlace} (h : DataW.Trod enc P w 0 (fun _ => true) true t (.slice a len cap) d p) :
    ∃ zs : List Int, len ≤ cap ∧ zs.length = len ∧ cap ≤ dlen d ∧ (∀ n ∈ zs, (Lit.int k n).wf = true) ∧ (0 < len → ∃ ad, a = some ad ∧ ∀ i, i < len → w.cell? (ad.add i) = some (.int k (zs.getD i 0))) := by
  obtain ⟨fuel, hf⟩ := h
  rcases open_ints ht he hc hf with ⟨hcs, _⟩ | ⟨x, l, c, zs, hcs, _, hl, hm, hz, hx, hcell, hwz⟩
  · simp [Value.cells] at hcs
    obtain ⟨rfl, rfl, rfl⟩ := hcs
    exact ⟨[], Nat.le_refl _, rfl, Nat.zero_le _, by simp, fun h => absurd h (by omega)⟩
  · simp [Value.cells] at hcs
    obtain ⟨rfl, rfl, rfl⟩ := hcs
    have hzc : zs.length = cap := by simpa using hz
    have hd : d = .slice (lits k (zs.take len)) (lits k (zs.drop len)) := (Prod.mk.inj hx).1
    refine ⟨zs.take len, hl, by simp; omega, ?_, fun n hn => hwz n (List.mem_of_mem_take hn), fun h0 => ⟨x, rfl, fun i hi => ?_⟩⟩
    · rw [hd]
      simp only [dlen, len_lits, List.length_take, List.length_drop]
      omega
    · rw [hcell i (by omega)]
      congr 2
      simp [List.getD_eq_getElem?_getD, List.getElem?_take, hi]

theorem open_bytes {t e : TypeId} (ht : P.underlying t = some (.slice e)) (he : P.underlying e = some (.int .u8)) (hc : P.cellsOf e = 1)
    {a : Option Addr} {len cap : Nat} {d : DataW H} {p : List MemPlace} (h : DataW.Trod enc P w 0 (fun _ => true) true t (.slice a len cap) d p) :
    ∃ xs : List UInt8, Rd w (fun _ => True) 1 a len (bys xs) ∧ len ≤ cap ∧ cap ≤ dlen d := by
  obtain ⟨zs, hl, hz, hd, hw, hcell⟩ := open_row ht he hc h
  refine ⟨zs.map fun z => UInt8.ofNat z.toNat, ⟨by rw [bys_len, List.length_map, hz, Nat.mul_one], fun h0 => ?_⟩, hl, hd⟩
  obtain ⟨ad, rfl, hat⟩ := hcell h0
  refine ⟨ad, rfl, trivial, fun j u hu => ?_⟩
  have hj : j < zs.length := by
    have := (List.getElem?_eq_some_iff.1 hu).1
    simpa [bys] using this
  have hb := u8_of_wf (hw _ (List.getElem_mem hj))
  rw [hat j (by omega)]
  simp only [bys, List.getElem?_map, List.getElem?_eq_getElem hj, Option.map_some, Option.some.injEq] at hu
  rw [← hu]
  simp only [List.getD_eq_getElem?_getD, List.getElem?_eq_getElem hj, Option.getD_some, bv, UInt8.toNat_ofNat']
  congr 2
  omega
theorem open_words {t e : TypeId} (ht : P.underlying t = some (.slice e)) (he : P.underlying e = some (.int .u64)) (hc : P.cellsOf e = 1)
    {a : Option Addr} {len cap : Nat} {d : DataW H} {p : List MemPlace} (h : DataW.Trod enc P w 0 (fun _ => true) true t (.slice a len cap) d p) :
    ∃ l : List Nat, Rd w (fun _ => True) 1 a len (wds l) ∧ (∀ x ∈ l, x < 18446744073709551616) ∧ len ≤ cap ∧ cap ≤ dlen d := by
  obtain ⟨zs, hl, hz, hd, hw, hcell⟩ := open_row ht he hc h
  refine ⟨zs.map fun z => z.toNat, ⟨by rw [wds_len, List.length_map, hz, Nat.mul_one], fun h0 => ?_⟩, ?_, hl, hd⟩
  · obtain ⟨ad, rfl, hat⟩ := hcell h0
    refine ⟨ad, rfl, trivial, fun j u hu => ?_⟩
    have hj : j < zs.length := by
      have := (List.getElem?_eq_some_iff.1 hu).1
      simpa [wds] using this
    have hb := u64_of_wf (hw _ (List.getElem_mem hj))
    rw [hat j (by omega)]
    simp only [wds, List.getElem?_map, List.getElem?_eq_getElem hj, Option.map_some, Option.some.injEq] at hu
    rw [← hu]
    simp only [List.getD_eq_getElem?_getD, List.getElem?_eq_getElem hj, Option.getD_some, wv]
    congr 2
    omega
  · intro x hx
    obtain ⟨z, hz, rfl⟩ := List.mem_map.1 hx
    have := u64_of_wf (hw z hz)
    omega
end

end Go.Proofs.YtjgnapjhlhdgfaaDoor
