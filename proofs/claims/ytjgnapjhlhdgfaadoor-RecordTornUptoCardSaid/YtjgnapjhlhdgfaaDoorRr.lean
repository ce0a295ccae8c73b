/- How records among the arguments are opened. No condition. -/
import Derived.Test.YtjgnapjhlhdgfaaDoorRo
import Derived.Test.YtjgnapjhlhdgfaaDoorRb
import Derived.Deep.SlicePairs
set_option linter.unusedVariables false
set_option linter.unusedSimpArgs false
namespace Go.Proofs.YtjgnapjhlhdgfaaDoor
open Go.RowKit Go.ChangeShapes Go.WideShapes Go.ChangeAt

section
variable {H : Type} {enc : TypeId × Value → H} {w : World}

theorem ofn {α : Type} {n : Nat} {f : Nat → α} {k : Nat} (h : k < n) : ((List.range n).map f)[k]? = some (f k) := by simp [h]

theorem trod_spans {fuel : Nat} {cs : List Value} {x : DataW H × List MemPlace} (h : DataW.trod enc Tryd.prog w 0 (fun _ => true) true fuel 34 cs = some x) :
    ∃ (A : Option Addr) (n c : Nat) (l : List (Int × Int)), cs = [.slice A n c] ∧ Rd w (fun _ => True) 2 A n (sps l) ∧ n ≤ c ∧ c ≤ dlen x.1 := by
  rcases Deep.open_slice_pairs Tryd.underlying34 Tryd.underlying56 (by kernel_rfl) rfl rfl (by kernel_rfl) (by kernel_rfl) h with ⟨rfl, rfl⟩ | ⟨a, len, cap, m, n, V0, V1, D0, D1, P0, P1, rfl, hb, hl, hc, hm, rfl, hx⟩
  · exact ⟨none, 0, 0, [], rfl, Rd.nil_, Nat.le_refl _, Nat.zero_le _⟩
  · rw [if_pos rfl] at hm
    subst hm
    have each : ∀ i, i < len → ∃ y : Int × Int, w.cell? (a.add (i * 2)) = some (.int .i64 y.1) ∧ w.cell? (a.add (i * 2 + 1)) = some (.int .i64 y.2) := fun i hi => by
      obtain ⟨h0, h1, h2, h3⟩ := hx i (by omega)
      obtain ⟨p, hp, _⟩ := DataW.trod_int Tryd.underlying3 h2
      obtain ⟨q, hq, _⟩ := DataW.trod_int Tryd.underlying3 h3
      injection hp with hp
      injection hq with hq
      exact ⟨(p, q), by rw [h0, hp], by rw [h1, hq]⟩
    obtain ⟨g, hg⟩ := Deep.choose_lt each
    refine ⟨some a, len, m, (List.range len).map g, rfl, ⟨by rw [sps_len]; simp, fun _ => ⟨a, rfl, trivial, fun j u hu => ?_⟩⟩, hl, by simp [dlen]; omega⟩
    have hj := (List.getElem?_eq_some_iff.1 hu).1
    rw [sps_len] at hj
    simp only [List.length_map, List.length_range] at hj
    obtain ⟨q, hq⟩ : ∃ q, j = q * 2 ∨ j = q * 2 + 1 := ⟨j / 2, by omega⟩
    have hi : q < len := by omega
    have hs := sps_at (l := (List.range len).map g) (k := q) (by simpa using hi)
    have hgi : ((List.range len).map g)[q]'(by simpa using hi) = g q := by simp
    rw [hgi] at hs
    have h2 := hg q hi
    rcases hq with rfl | rfl
    · rw [hs.1] at hu
      rw [h2.1, hu]
    · rw [hs.2] at hu
      rw [h2.2, hu]

theorem trod_bytes {fuel : Nat} {cs : List Value} {x : DataW H × List MemPlace} (h : DataW.trod enc Tryd.prog w 0 (fun _ => true) true fuel 22 cs = some x) :
    ∃ (A : Option Addr) (n c : Nat) (l : List UInt8), cs = [.slice A n c] ∧ Rd w (fun _ => True) 1 A n (bys l) ∧ n ≤ c ∧ c ≤ dlen x.1 := by
  rcases DataW.trod_slice Tryd.underlying22 h with ⟨rfl, rfl⟩ | ⟨a, len, cap, _, _, _, _, rfl, _⟩
  · exact ⟨none, 0, 0, [], rfl, Rd.nil_, Nat.le_refl _, Nat.zero_le _⟩
  · obtain ⟨xs, hr, hc, hd⟩ := open_bytes (enc := enc) (w := w) (a := some a) (len := len) (cap := cap) (d := x.1) (p := x.2) Tryd.underlying22 Tryd.underlying5 (by kernel_rfl) ⟨fuel, h⟩
    exact ⟨some a, len, cap, xs, rfl, hr, hc, hd⟩

theorem i64_wf {n : Int} (h : (Lit.int .i64 n).wf = true) : -9223372036854775808 ≤ n ∧ n ≤ 9223372036854775807 := i64_of_wf h

set_option maxRecDepth 100000 in
/-- A record that is read. -/
theorem trod_rec {fuel : Nat} {cs : List Value} {x : DataW H × List MemPlace} (h : DataW.trod enc Tryd.prog w 0 (fun _ => true) true fuel 36 cs = some x) :
    ∃ (a : Rc) (sp : List (Int × Int)) (dt : List UInt8) (y z : DataW H), cs = a.cells.toList ∧ Rd w (fun _ => True) 2 a.S a.sn (sps sp) ∧ Rd w (fun _ => True) 1 a.D a.dn (bys dt) ∧ a.sn ≤ a.sc ∧ a.dn ≤ a.dc ∧ a.sc ≤ dlen y ∧ a.dc ≤ dlen z ∧
      ∃ ys, x.1 = .agg ys ∧ ys[8]? = some y ∧ ys[9]? = some z := by
  obtain ⟨xs, n, _, rfl, hl, hlen, hf⟩ := DataW.trod_struct Tryd.underlying36 h
  have hl' : cs.length = 11 := hl.trans (by kernel_rfl)
  match xs, hlen, cs, hl' with
  | [y0, y1, y2, y3, y4, y5, y6, y7, y8, y9], _, [c0, c1, c2, c3, c4, c5, c6, c7, c8, c9, c10], _ =>
    have g1 : Tryd.prog.cellsOf 3 = 1 := by kernel_rfl
    have g2 : Tryd.prog.cellsOf 33 = 2 := by kernel_rfl
    have g3 : Tryd.prog.cellsOf 34 = 1 := by kernel_rfl
    have g4 : Tryd.prog.cellsOf 22 = 1 := by kernel_rfl
    have h0 := hf 0 _ rfl
    have h1 := hf 1 _ rfl
    have h2 := hf 2 _ rfl
    have h3 := hf 3 _ rfl
    have h4 := hf 4 _ rfl
    have h5 := hf 5 _ rfl
    have h6 := hf 6 _ rfl
    have h7 := hf 7 _ rfl
    have h8 := hf 8 _ rfl
    have h9 := hf 9 _ rfl
    simp [g1, g2, g3, g4] at h0 h1 h2 h3 h4 h5 h6 h7 h8 h9
    obtain ⟨k, e0, _⟩ := DataW.trod_int Tryd.underlying3 h0
    obtain ⟨p, e2, _⟩ := DataW.trod_int Tryd.underlying3 h2
    obtain ⟨v, e3, _⟩ := DataW.trod_int Tryd.underlying3 h3
    obtain ⟨f, e4, _⟩ := DataW.trod_int Tryd.underlying3 h4
    obtain ⟨r, e5, _⟩ := DataW.trod_int Tryd.underlying3 h5
    obtain ⟨z, e6, _⟩ := DataW.trod_int Tryd.underlying3 h6
    obtain ⟨hw, e7, _⟩ := DataW.trod_int Tryd.underlying3 h7
    obtain ⟨xs', n', _, _, hl2, hlen2, hf2⟩ := DataW.trod_struct Tryd.underlying33 h1
    match xs', hlen2 with
    | [z0, z1], _ =>
      have k0 := hf2 0 _ rfl
      have k1 := hf2 1 _ rfl
      simp [g1] at k0 k1
      obtain ⟨o, e1a, _⟩ := DataW.trod_int Tryd.underlying3 k0
      obtain ⟨nn, e1b, _⟩ := DataW.trod_int Tryd.underlying3 k1
      obtain ⟨S, sn, sc, sp, e8, hr8, hc8, hd8⟩ := trod_spans h8
      obtain ⟨D, dn, dc, dt, e9, hr9, hc9, hd9⟩ := trod_bytes h9
      simp only [List.cons.injEq, and_true] at e0 e1a e1b e2 e3 e4 e5 e6 e7 e8 e9
      subst e0 e1a e1b e2 e3 e4 e5 e6 e7 e8 e9
      exact ⟨⟨k, o, nn, p, v, f, r, z, hw, S, sn, sc, D, dn, dc⟩, sp, dt, y8.1, y9.1, rfl, hr8, hr9, hc8, hc9, hd8, hd9, _, rfl, rfl, rfl⟩

theorem dlen_weights {P : Program} {t e : TypeId} (ht : P.underlying t = some (.slice e)) (d : DataW H) (hd : 0 < dlen d) : dlen d * P.bytesOf e ∈ d.weights P t := by
  cases d with
  | slice elems spare => simp [dlen, DataW.weights, ht]
  | _ => simp [dlen] at hd

/-- What a record weighs. -/
theorem rec_weights {ys : List (DataW H)} {y z : DataW H} (hy : ys[8]? = some y) (hz : ys[9]? = some z) {B : Nat} (h : ∀ n ∈ (DataW.agg ys).weights Tryd.prog 36, n ≤ B) : dlen y * 16 ≤ B ∧ dlen z * 1 ≤ B := by
  have hw : (DataW.agg ys).weights Tryd.prog 36 = DataW.weightsEach Tryd.prog [3, 33, 3, 3, 3, 3, 3, 3, 34, 22] ys := by
    simp only [DataW.weights, Tryd.underlying36, List.map_cons, List.map_nil]
  rw [hw] at h
  have b1 : Tryd.prog.bytesOf 56 = 16 := by kernel_rfl
  have b2 : Tryd.prog.bytesOf 5 = 1 := by kernel_rfl
  constructor
  · rcases Nat.eq_zero_or_pos (dlen y) with h0 | h0
    · rw [h0]; omega
    · have := DataW.weights_mem_each (ts := [3, 33, 3, 3, 3, 3, 3, 3, 34, 22]) (j := 8) rfl hy _ (dlen_weights Tryd.underlying34 y h0)
      rw [b1] at this
      exact h _ this
  · rcases Nat.eq_zero_or_pos (dlen z) with h0 | h0
    · rw [h0]; omega
    · have := DataW.weights_mem_each (ts := [3, 33, 3, 3, 3, 3, 3, 3, 34, 22]) (j := 9) rfl hz _ (dlen_weights Tryd.underlying22 z h0)
      rw [b2] at this
      exact h _ this
theorem rec_bulk {ys : List (DataW H)} {y z : DataW H} (hy : ys[8]? = some y) (hz : ys[9]? = some z) : dlen y ≤ Rows.uptoBulk (.agg ys) ∧ dlen z ≤ Rows.uptoBulk (.agg ys) := by
  have h1 := bulks.part_le (List.mem_of_getElem? hy)
  have h2 := bulks.part_le (List.mem_of_getElem? hz)
  have h3 := dlen_bulk y
  have h4 := dlen_bulk z
  simp only [Rows.uptoBulk]
  omega
theorem okWide_struct {P : Program} {base : Nat} {t : TypeId} {fs : Array Field} (ht : P.underlying t = some (.struct fs)) {v : Value} (h : Value.okWide P w .any base t v) : ∃ cs, v = .agg cs := by
  unfold Value.okWide at h
  rw [ht] at h
  obtain ⟨cs, hv, _⟩ := h
  exact ⟨cs, hv⟩
end

end Go.Proofs.YtjgnapjhlhdgfaaDoor
