/- Records: one that is lent. Records: are the marks kept; a record's lists are written over. Records: helpers of the laws' walks. -/
import Derived.Test.YtjgnapjhlhdgfaaDoorRm
import Derived.Laws.Rows
set_option linter.unusedVariables false
set_option linter.unusedSimpArgs false
namespace Go.Proofs.YtjgnapjhlhdgfaaDoor
open Go.RowKit

theorem opAt (n : Nat) {P : Program} {ops : Array Oper} {rest : List Oper} {a : Act} {Q : Exit → Act → World → Prop} {w : World} {b c d e f} (h : wpList P ops Q (Oper.mk (some n) b c d e f :: rest) a w) :
    wpList P ops Q (Oper.mk (some n) b c d e f :: rest) a w := h
theorem Tryd.elSp : Elem Tryd.prog 34 56 (.agg #[.int .i64 0, .int .i64 0]) 2 16 := ⟨Tryd.underlying34, by kernel_rfl, rfl, by omega⟩

theorem made1 (u : Value) (n : Nat) : (madeCells #[u] n).toList = List.replicate n u := toList_madeCells_one _ _
theorem made2 (n : Nat) : (madeCells #[.int .i64 0, .int .i64 0] n).toList = List.replicate n (.int .i64 0) := by
  apply List.ext_getElem
  · simp [madeCells]
  · intro i h1 h2
    have : i % 2 = 0 ∨ i % 2 = 1 := by omega
    rcases this with h | h <;> simp [madeCells, h]
/-- A row of bytes with its two marks behind. -/
theorem marksB {w2 : World} {base e g n : Nat} {l : List UInt8} (hn : l.length = n) (h : w2.ownsRow base e 1 (.slice (some ⟨g, 0, none⟩) (n + 2) (n + 2)) (n + 2) (bys l ++ (madeCells #[.int .u8 0] ((n + 2) * 1)).toList.drop (n * 1))) :
    w2.cell? ⟨g, n, none⟩ = some (.int .u8 0) ∧ w2.frozen? ⟨g, n, none⟩ = false ∧ (w2.setCell ⟨g, n, none⟩ (.int .u8 177)).cell? ⟨g, n + 1, none⟩ = some (.int .u8 0) ∧ (w2.setCell ⟨g, n, none⟩ (.int .u8 177)).frozen? ⟨g, n + 1, none⟩ = false ∧
    Hid (((w2.setCell ⟨g, n, none⟩ (.int .u8 177)).setCell ⟨g, n + 1, none⟩ (.int .u8 178)).ownsRow base e 1 (.slice (some ⟨g, 0, none⟩) (n + 2) (n + 2)) (n + 2) (bys (l ++ [177, 178])) ∧
      Kp (fun k => k = g) w2 ((w2.setCell ⟨g, n, none⟩ (.int .u8 177)).setCell ⟨g, n + 1, none⟩ (.int .u8 178))) := by
  subst hn
  have ez : (madeCells #[.int .u8 0] ((l.length + 2) * 1)).toList.drop (l.length * 1) = bys [0, 0] := by
    rw [Nat.mul_one, Nat.mul_one, made1, List.drop_replicate, show l.length + 2 - l.length = 2 from by omega]
    rfl
  rw [ez, ← bys_app] at h
  have hst2 := h.stored l.length (bv 177)
  rw [bys_set, show (l ++ [(0 : UInt8), 0]).set l.length 177 = l ++ [177, 0] from by simp] at hst2
  have hst3 := hst2.1.stored (l.length + 1) (bv 178)
  rw [bys_set, show (l ++ [(177 : UInt8), 0]).set (l.length + 1) 178 = l ++ [177, 178] from by simp] at hst3
  have ha : ∀ (W : World) (x y : UInt8), W.ownsRow base e 1 (.slice (some ⟨g, 0, none⟩) (l.length + 2) (l.length + 2)) (l.length + 2) (bys (l ++ [x, y])) → W.cell? ⟨g, l.length, none⟩ = some (bv x) ∧ W.cell? ⟨g, l.length + 1, none⟩ = some (bv y) := fun W x y hW =>
    ⟨own_at hW (k := l.length) (by simp [bys]), own_at hW (k := l.length + 1) (by simp [bys])⟩
  exact ⟨(ha _ _ _ h).1, h.frozenAt _, (ha _ _ _ hst2.1).2, hst2.1.frozenAt _, hst3.1, ((Kp.refl _ w2).one hst2.2).one hst3.2⟩

theorem own_atn {w : World} {base e size g n cap : Nat} {xs : List Value} (h : w.ownsRow base e size (.slice (some ⟨g, 0, none⟩) n cap) n xs) {k : Nat} {v : Value} (hb : xs[k]? = some v) :
    w.cell? ⟨g, k, none⟩ = some v := by
  have hl := h.1
  have hk := (List.getElem?_eq_some_iff.1 hb).1
  rw [h.cellAt k (by omega), hb]
theorem set_app {α : Type} (l : List α) (k : Nat) (x : α) (r : List α) : (l ++ r).set (l.length + k) x = l ++ r.set k x := by
  rw [List.set_append_right _ _ (by omega), Nat.add_sub_cancel_left]
theorem set_app0 {α : Type} (l : List α) (x : α) (r : List α) : (l ++ r).set l.length x = l ++ r.set 0 x := set_app l 0 x r
theorem at_app0 {α : Type} (l : List α) (r : List α) : (l ++ r)[l.length]? = r[0]? := by
  rw [List.getElem?_append_right (Nat.le_refl _), Nat.sub_self]
theorem at_app {α : Type} (l : List α) (k : Nat) (r : List α) : (l ++ r)[l.length + k]? = r[k]? := by
  rw [List.getElem?_append_right (by omega), Nat.add_sub_cancel_left]
theorem sps_app (a b : List (Int × Int)) : sps (a ++ b) = sps a ++ sps b := by simp [sps]
theorem sps_one (l : List (Int × Int)) : ∀ u ∈ sps l, u.oneCell' = true := by
  intro u hu
  obtain ⟨s, _, hs⟩ := List.mem_flatMap.1 hu
  simp [spv] at hs
  rcases hs with rfl | rfl <;> rfl
/-- A row of spans with its two marks behind. -/
theorem marksS {w2 : World} {base e g n : Nat} {l : List (Int × Int)} (hn : l.length = n) (h : w2.ownsRow base e 2 (.slice (some ⟨g, 0, none⟩) (n + 2) (n + 2)) (n + 2) (sps l ++ (List.replicate ((n + 2) * 2) (.int .i64 0)).drop (n * 2))) :
    (w2.cell? ⟨g, n * 2, none⟩ = some (.int .i64 0) ∧ w2.frozen? ⟨g, n * 2, none⟩ = false) ∧
    ((w2.setCell ⟨g, n * 2, none⟩ (.int .i64 (-77))).cell? ⟨g, n * 2 + 1, none⟩ = some (.int .i64 0) ∧ (w2.setCell ⟨g, n * 2, none⟩ (.int .i64 (-77))).frozen? ⟨g, n * 2 + 1, none⟩ = false) ∧
    (((w2.setCell ⟨g, n * 2, none⟩ (.int .i64 (-77))).setCell ⟨g, n * 2 + 1, none⟩ (.int .i64 0)).cell? ⟨g, (n + 1) * 2, none⟩ = some (.int .i64 0) ∧ ((w2.setCell ⟨g, n * 2, none⟩ (.int .i64 (-77))).setCell ⟨g, n * 2 + 1, none⟩ (.int .i64 0)).frozen? ⟨g, (n + 1) * 2, none⟩ = false) ∧
    ((((w2.setCell ⟨g, n * 2, none⟩ (.int .i64 (-77))).setCell ⟨g, n * 2 + 1, none⟩ (.int .i64 0)).setCell ⟨g, (n + 1) * 2, none⟩ (.int .i64 (-78))).cell? ⟨g, (n + 1) * 2 + 1, none⟩ = some (.int .i64 0) ∧
      (((w2.setCell ⟨g, n * 2, none⟩ (.int .i64 (-77))).setCell ⟨g, n * 2 + 1, none⟩ (.int .i64 0)).setCell ⟨g, (n + 1) * 2, none⟩ (.int .i64 (-78))).frozen? ⟨g, (n + 1) * 2 + 1, none⟩ = false) ∧
    Hid (((((w2.setCell ⟨g, n * 2, none⟩ (.int .i64 (-77))).setCell ⟨g, n * 2 + 1, none⟩ (.int .i64 0)).setCell ⟨g, (n + 1) * 2, none⟩ (.int .i64 (-78))).setCell ⟨g, (n + 1) * 2 + 1, none⟩ (.int .i64 0)).ownsRow base e 2 (.slice (some ⟨g, 0, none⟩) (n + 2) (n + 2)) (n + 2) (sps (l ++ [(-77, 0), (-78, 0)])) ∧
      Kp (fun k => k = g) w2 ((((w2.setCell ⟨g, n * 2, none⟩ (.int .i64 (-77))).setCell ⟨g, n * 2 + 1, none⟩ (.int .i64 0)).setCell ⟨g, (n + 1) * 2, none⟩ (.int .i64 (-78))).setCell ⟨g, (n + 1) * 2 + 1, none⟩ (.int .i64 0))) := by
  subst hn
  have ez : (List.replicate ((l.length + 2) * 2) (Value.int .i64 0)).drop (l.length * 2) = [.int .i64 0, .int .i64 0, .int .i64 0, .int .i64 0] := by
    rw [List.drop_replicate, show (l.length + 2) * 2 - l.length * 2 = 4 from by omega]
    rfl
  have hl := sps_len l
  rw [ez] at h
  rw [show (l.length + 1) * 2 = (sps l).length + 2 from by omega, show l.length * 2 = (sps l).length from by omega]
  have h1 := h.stored (sps l).length (.int .i64 (-77))
  rw [set_app0] at h1
  have h2 := h1.1.stored ((sps l).length + 1) (.int .i64 0)
  rw [set_app] at h2
  have h3 := h2.1.stored ((sps l).length + 2) (.int .i64 (-78))
  rw [set_app] at h3
  have h4 := h3.1.stored ((sps l).length + 3) (.int .i64 0)
  rw [set_app] at h4
  refine ⟨⟨own_atn h (by rw [at_app0]; rfl), h.frozenAt _⟩, ⟨own_atn h1.1 (by rw [at_app]; rfl), h1.1.frozenAt _⟩, ⟨own_atn h2.1 (by rw [at_app]; rfl), h2.1.frozenAt _⟩, ⟨own_atn h3.1 (by rw [show (sps l).length + 2 + 1 = (sps l).length + 3 from rfl, at_app]; rfl), h3.1.frozenAt _⟩, ?_, ?_⟩
  · rw [sps_app]
    exact h4.1
  · exact (((Kp.refl _ w2).one h1.2).one h2.2).one h3.2 |>.one h4.2

set_option maxRecDepth 100000 in
set_option maxHeartbeats 6400000 in
theorem lent_any (a : Rc) (ok okd : Nat → Prop) (sp : List (Int × Int)) (dt : List UInt8) (w : World) (hr : Rd w ok 2 a.S a.sn (sps sp)) (hrd : Rd w okd 1 a.D a.dn (bys dt))
    (hn : a.sn ≤ 8796093022000) (hd : a.dn ≤ 140737488351232) :
    Calls Tryd.prog 13 #[a.val] w fun e w' => ∃ gS gD, e = .returned (a.at_ (some ⟨gS, 0, none⟩) (a.sn + 2) (some ⟨gD, 0, none⟩) (a.dn + 2)).val ∧
      w'.ownsRow w.heap.size 5 1 (.slice (some ⟨gD, 0, none⟩) (a.dn + 2) (a.dn + 2)) (a.dn + 2) (bys (dt ++ [177, 178])) ∧
      w'.ownsRow w.heap.size 56 2 (.slice (some ⟨gS, 0, none⟩) (a.sn + 2) (a.sn + 2)) (a.sn + 2) (sps (sp ++ [(-77, 0), (-78, 0)])) ∧ Nw w w' := by
  have hval : a.val = .agg #[.int .i64 a.k, .int .i64 a.o, .int .i64 a.n, .int .i64 a.p, .int .i64 a.v, .int .i64 a.f, .int .i64 a.r, .int .i64 a.z, .int .i64 a.h, .slice a.S a.sn a.sc, .slice a.D a.dn a.dc] := rfl
  rw [hval]
  have eb := Tryd.elU8
  have es := Tryd.elSp
  have hmk : ∀ W : World, (Instr.makeSlice 22 (.int .i64 ((a.dn : Int) + 2)) (.int .i64 ((a.dn : Int) + 2))).run Tryd.prog W =
      .ok (.slice (some ⟨W.heap.size, 0, none⟩) (a.dn + 2) (a.dn + 2)) (W.alloc (.cells (madeCells #[.int .u8 0] (a.dn + 2)) 5)) := fun W => by
    have h := run_mk eb (a.dn + 2) (a.dn + 2) (Nat.le_refl _) (by omega) (by omega) W
    rw [Nat.mul_one] at h
    exact h
  have hmk2 : ∀ W : World, (Instr.makeSlice 34 (.int .i64 ((a.sn : Int) + 2)) (.int .i64 ((a.sn : Int) + 2))).run Tryd.prog W =
      .ok (.slice (some ⟨W.heap.size, 0, none⟩) (a.sn + 2) (a.sn + 2)) (W.alloc (.cells (madeCells #[.int .i64 0, .int .i64 0] ((a.sn + 2) * 2)) 56)) := fun W =>
    run_mk es (a.sn + 2) (a.sn + 2) (Nat.le_refl _) (by omega) (by omega) W
  have HO : Hid (∀ W : World, (W.alloc (.cells (madeCells #[.int .u8 0] (a.dn + 2)) 5)).ownsRow W.heap.size 5 1 (.slice (some ⟨W.heap.size, 0, none⟩) (a.dn + 2) (a.dn + 2)) (a.dn + 2) (madeCells #[.int .u8 0] ((a.dn + 2) * 1)).toList) := fun W => by
    have h := own_full (e := 5) (size := 1) (base := W.heap.size) W #[.int .u8 0] (a.dn + 2) (by simp only [maxLen]; omega) (Nat.le_refl _)
    rw [Nat.mul_one] at h ⊢
    exact h
  have HO2 : Hid (∀ W : World, (W.alloc (.cells (madeCells #[.int .i64 0, .int .i64 0] ((a.sn + 2) * 2)) 56)).ownsRow W.heap.size 56 2 (.slice (some ⟨W.heap.size, 0, none⟩) (a.sn + 2) (a.sn + 2)) (a.sn + 2) (List.replicate ((a.sn + 2) * 2) (.int .i64 0))) := fun W => by
    rw [← made2]
    exact own_full (e := 56) (size := 2) (base := W.heap.size) W #[.int .i64 0, .int .i64 0] (a.sn + 2) (by simp only [maxLen]; omega) (Nat.le_refl _)
  have hbx : Kp (fun _ => False) w ((w.alloc (.cells #[.int .i64 a.k, .int .i64 a.o, .int .i64 a.n, .int .i64 a.p, .int .i64 a.v, .int .i64 a.f, .int .i64 a.r, .int .i64 a.z, .int .i64 a.h, .slice a.S a.sn a.sc, .slice a.D a.dn a.dc] 36)).alloc (.cells #[.int .i64 0, .int .i64 0, .int .i64 0, .int .i64 0, .int .i64 0, .int .i64 0, .int .i64 0, .int .i64 0, .int .i64 0, .slice none 0 0, .slice none 0 0] 36)) := ((Kp.refl _ w).alloc _).alloc _
  have ho := HO.out ((w.alloc (.cells #[.int .i64 a.k, .int .i64 a.o, .int .i64 a.n, .int .i64 a.p, .int .i64 a.v, .int .i64 a.f, .int .i64 a.r, .int .i64 a.z, .int .i64 a.h, .slice a.S a.sn a.sc, .slice a.D a.dn a.dc] 36)).alloc (.cells #[.int .i64 0, .int .i64 0, .int .i64 0, .int .i64 0, .int .i64 0, .int .i64 0, .int .i64 0, .int .i64 0, .int .i64 0, .slice none 0 0, .slice none 0 0] 36))
  have hz2 : ((w.alloc (.cells #[.int .i64 a.k, .int .i64 a.o, .int .i64 a.n, .int .i64 a.p, .int .i64 a.v, .int .i64 a.f, .int .i64 a.r, .int .i64 a.z, .int .i64 a.h, .slice a.S a.sn a.sc, .slice a.D a.dn a.dc] 36)).alloc (.cells #[.int .i64 0, .int .i64 0, .int .i64 0, .int .i64 0, .int .i64 0, .int .i64 0, .int .i64 0, .int .i64 0, .int .i64 0, .slice none 0 0, .slice none 0 0] 36)).heap.size = w.heap.size + 1 + 1 := by simp
  rw [hz2] at ho
  have hb0 := own_nw (own_lit (e := 36) (size := 1) (base := 0) w #[.int .i64 a.k, .int .i64 a.o, .int .i64 a.n, .int .i64 a.p, .int .i64 a.v, .int .i64 a.f, .int .i64 a.r, .int .i64 a.z, .int .i64 a.h, .slice a.S a.sn a.sc, .slice a.D a.dn a.dc] 11 (by simp [maxLen]) rfl (Nat.zero_le _)) ((Kp.refl _ _).alloc (.cells #[.int .i64 0, .int .i64 0, .int .i64 0, .int .i64 0, .int .i64 0, .int .i64 0, .int .i64 0, .int .i64 0, .int .i64 0, .slice none 0 0, .slice none 0 0] 36))
  have hr0 := own_lit (e := 36) (size := 1) (base := 0) (w.alloc (.cells #[.int .i64 a.k, .int .i64 a.o, .int .i64 a.n, .int .i64 a.p, .int .i64 a.v, .int .i64 a.f, .int .i64 a.r, .int .i64 a.z, .int .i64 a.h, .slice a.S a.sn a.sc, .slice a.D a.dn a.dc] 36)) #[.int .i64 0, .int .i64 0, .int .i64 0, .int .i64 0, .int .i64 0, .int .i64 0, .int .i64 0, .int .i64 0, .int .i64 0, .slice none 0 0, .slice none 0 0] 11 (by simp [maxLen]) rfl (Nat.zero_le _)
  have hz1 : (w.alloc (.cells #[.int .i64 a.k, .int .i64 a.o, .int .i64 a.n, .int .i64 a.p, .int .i64 a.v, .int .i64 a.f, .int .i64 a.r, .int .i64 a.z, .int .i64 a.h, .slice a.S a.sn a.sc, .slice a.D a.dn a.dc] 36)).heap.size = w.heap.size + 1 := by simp
  rw [hz1] at hr0
  have HB0 := Lib.hid hb0
  have HR0 := Lib.hid hr0
  clear hb0 hr0 hz1
  have HSL : Hid (sp.length = a.sn) := by have := hr.1; rw [sps_len] at this; show _ = _; omega
  have HDL : Hid (dt.length = a.dn) := by have := hrd.len; rwa [bys_len] at this
  have HBX := Lib.hid hbx
  have HOW := Lib.hid ho
  have HRD := Lib.hid hr
  have HDD := Lib.hid hrd
  clear hbx ho hz2 hr hrd
  generalize madeCells #[.int .u8 0] (a.dn + 2) = zz at *
  go_enter Tryd.func13, Tryd.ntmps13
  go_upto_region 5 with (with_reducible refine opAt 13 ?_; refine wpList_copyv (o := ⟨some 13, _, _, _, _, _⟩) _ rfl (.tmp 10) (.tmp 12) 22 5 rfl eb (w.heap.size + 1 + 1) (w.heap.size + 1 + 1) _ _ _ HOW.out rfl _ a.D a.dn a.dc _ ((HDD.out.nw HBX.out).alloc _) rfl (bys_one _) (by omega) ?_; intro w3 hown3 hkp3; have hb3 := own_kp (own_nw HB0.out ((Kp.refl _ _).alloc (.cells zz 5))) hkp3 (fun g e h => by simp [Value.ownBlock] at e; omega); have hp9 := own_at hb3 (k := 9) rfl; have hp10 := own_at hb3 (k := 10) rfl; obtain ⟨hc1, hf1, hc2, hf2, HST⟩ := marksB HDL.out hown3; clear hown3)
  have hr3 := own_kp (own_nw HR0.out ((Kp.refl _ _).alloc (.cells zz 5))) hkp3 (fun g e h => by simp [Value.ownBlock] at e; omega)
  have hD4 := HST.out.1
  have hb4 := own_kp hb3 HST.out.2 (fun g e h => by simp [Value.ownBlock] at e; omega)
  have hr4 := own_kp hr3 HST.out.2 (fun g e h => by simp [Value.ownBlock] at e; omega)
  have hn4 : Nw w _ := (HBX.out.alloc (.cells zz 5)).trans (hkp3.trans HST.out.2 fun _ _ e => e) fun i hi e => by omega
  have hz4 : w.heap.size + 1 + 1 + 1 ≤ w3.heap.size := by have := hkp3.size; simp at this; omega
  have hz5 : (World.setCell (World.setCell w3 ⟨w.heap.size + 1 + 1, a.dn, none⟩ (.int .u8 177)) ⟨w.heap.size + 1 + 1, a.dn + 1, none⟩ (.int .u8 178)).heap.size = w3.heap.size := by simp
  rw [← hz5] at hz4
  clear hp9 hp10 hc1 hf1 hc2 hf2 HST hb3 hr3 hkp3 HOW HBX HB0 HR0 HO hmk hz5
  generalize World.setCell (World.setCell w3 ⟨w.heap.size + 1 + 1, a.dn, none⟩ (.int .u8 177)) ⟨w.heap.size + 1 + 1, a.dn + 1, none⟩ (.int .u8 178) = w4 at *
  have HOW := Lib.hid (HO2.out w4)
  have hp9 := own_at hb4 (k := 9) rfl
  have hp10 := own_at hb4 (k := 10) rfl
  have hlt4 : w.heap.size < w4.heap.size := by omega
  have HB4 := Lib.hid hb4
  have HR4 := Lib.hid hr4
  have HD4 := Lib.hid hD4
  clear hb4 hr4 hD4
  generalize madeCells #[.int .i64 0, .int .i64 0] ((a.sn + 2) * 2) = zz2 at hmk2 HOW HO2
  go_upto_region 9 with (with_reducible refine opAt 33 ?_; refine wpList_copyv (o := ⟨some 33, _, _, _, _, _⟩) _ rfl (.tmp 30) (.tmp 32) 34 56 rfl es w4.heap.size w4.heap.size _ _ _ HOW.out rfl _ a.S a.sn a.sc _ ((HRD.out.nw hn4).alloc _) rfl (sps_one _) (by omega) ?_; intro w5 hown5 hkp5; have hb5 := own_kp (own_nw HB4.out ((Kp.refl _ _).alloc (.cells zz2 56))) hkp5 (fun g e h => by simp [Value.ownBlock] at e; omega); clear hp9 hp10; have hp9 := own_at hb5 (k := 9) rfl; have hp10 := own_at hb5 (k := 10) rfl; obtain ⟨⟨hc1, hf1⟩, ⟨hc2, hf2⟩, ⟨hc3, hf3⟩, ⟨hc4, hf4⟩, HST⟩ := marksS HSL.out hown5; clear hown5)
  have hr5 := own_kp (own_nw HR4.out ((Kp.refl _ _).alloc (.cells zz2 56))) hkp5 (fun g e h => by simp [Value.ownBlock] at e; omega)
  have hD5 := own_kp (own_nw HD4.out ((Kp.refl _ _).alloc (.cells zz2 56))) hkp5 (fun g e h => by simp [Value.ownBlock] at e; omega)
  have hS6 := HST.out.1
  have hb6 := own_kp hb5 HST.out.2 (fun g e h => by simp [Value.ownBlock] at e; omega)
  have hr6 := own_kp hr5 HST.out.2 (fun g e h => by simp [Value.ownBlock] at e; omega)
  have hD6 := own_kp hD5 HST.out.2 (fun g e h => by simp [Value.ownBlock] at e; omega)
  have hn6 : Nw w _ := (hn4.alloc (.cells zz2 56)).trans (hkp5.trans HST.out.2 fun _ _ e => e) fun i hi e => by omega
  clear hp9 hp10 hc1 hf1 hc2 hf2 hc3 hf3 hc4 hf4 HST hb5 hr5 hD5 hkp5 HOW HB4 HR4 HD4 HO2 hmk2 hn4
  generalize World.setCell (World.setCell (World.setCell (World.setCell w5 ⟨w4.heap.size, a.sn * 2, none⟩ (.int .i64 (-77))) ⟨w4.heap.size, a.sn * 2 + 1, none⟩ (.int .i64 0)) ⟨w4.heap.size, (a.sn + 1) * 2, none⟩ (.int .i64 (-78))) ⟨w4.heap.size, (a.sn + 1) * 2 + 1, none⟩ (.int .i64 0) = w6 at *
  have HB6 := Lib.hid hb6
  have HR6 := Lib.hid hr6
  have HD6 := Lib.hid hD6
  have HS6 := Lib.hid hS6
  clear hb6 hr6 hD6 hS6
  have hp0 := own_at HB6.out (k := 0) rfl
  have hp1 := own_at HB6.out (k := 1) rfl
  have hp2 := own_at HB6.out (k := 2) rfl
  have hp3 := own_at HB6.out (k := 3) rfl
  have hp4 := own_at HB6.out (k := 4) rfl
  have hp5 := own_at HB6.out (k := 5) rfl
  have hp6 := own_at HB6.out (k := 6) rfl
  have hp7 := own_at HB6.out (k := 7) rfl
  have hp8 := own_at HB6.out (k := 8) rfl
  have hp9 := own_at HB6.out (k := 9) rfl
  have hp10 := own_at HB6.out (k := 10) rfl
  have hf9 := fun j => HB6.out.frozenAt j
  have ht0 := own_at HR6.out (k := 0) rfl
  have ht1 := own_at HR6.out (k := 1) rfl
  have ht2 := own_at HR6.out (k := 2) rfl
  have ht3 := own_at HR6.out (k := 3) rfl
  have ht4 := own_at HR6.out (k := 4) rfl
  have ht5 := own_at HR6.out (k := 5) rfl
  have ht6 := own_at HR6.out (k := 6) rfl
  have ht7 := own_at HR6.out (k := 7) rfl
  have ht8 := own_at HR6.out (k := 8) rfl
  have ht9 := own_at HR6.out (k := 9) rfl
  have ht10 := own_at HR6.out (k := 10) rfl
  have hg9 := fun j => HR6.out.frozenAt j
  go_wp2
  refine bodyPost_ret (v := (a.at_ (some ⟨w4.heap.size, 0, none⟩) (a.sn + 2) (some ⟨w.heap.size + 1 + 1, 0, none⟩) (a.dn + 2)).val) (by simp [results, Tryd.results13, go_sem, Rc.val, Rc.cells, Rc.at_, ht0, ht1, ht2, ht3, ht4, ht5, ht6, ht7, ht8, ht9, ht10]) rfl ?_
  have HK : ∀ (W : World) (p : Addr) (u : Value), Nw w W → w.heap.size ≤ p.block → Nw w (W.setCell p u) := fun W p u h hp => h.setCell (fun hl => by omega) u
  have HW : ∀ (W : World) (p : Addr) (u : Value) (b e s n : Nat) (v : Value) (xs : List Value), W.ownsRow b e s v n xs → v.ownBlock ≠ some p.block → (W.setCell p u).ownsRow b e s v n xs := fun W p u b e s n v xs h hp =>
    own_kp h ((Kp.refl (fun k => k = p.block) W).setCell (fun _ => rfl) u) fun g hg e => hp (by rw [hg, e])
  have hz : w.heap.size + 1 + 1 < w4.heap.size := by omega
  refine ⟨w4.heap.size, w.heap.size + 1 + 1, rfl, ?_, ?_, ?_⟩
  · refine own_base (base := w.heap.size + 1 + 1) ?_ (fun g hg => by simp [Value.ownBlock] at hg; omega)
    iterate 13 refine HW _ _ _ _ _ _ _ _ _ ?_ (by simp [Value.ownBlock] <;> omega)
    exact HD6.out
  · refine own_base (base := w4.heap.size) ?_ (fun g hg => by simp [Value.ownBlock] at hg; omega)
    iterate 13 refine HW _ _ _ _ _ _ _ _ _ ?_ (by simp [Value.ownBlock]; omega)
    exact HS6.out
  · iterate 13 refine HK _ _ _ ?_ (by simp)
    exact hn6

end Go.Proofs.YtjgnapjhlhdgfaaDoor

namespace Go.Proofs.YtjgnapjhlhdgfaaDoor
open Go.RowKit

set_option maxRecDepth 100000 in
set_option maxHeartbeats 6400000 in
theorem kept_any (a : Rc) (gS gD bD bS : Nat) (sp : List (Int × Int)) (dt : List UInt8) (w : World)
    (hD : w.ownsRow bD 5 1 (.slice (some ⟨gD, 0, none⟩) (a.dn + 2) (a.dn + 2)) (a.dn + 2) (bys (dt ++ [177, 178])))
    (hS : w.ownsRow bS 56 2 (.slice (some ⟨gS, 0, none⟩) (a.sn + 2) (a.sn + 2)) (a.sn + 2) (sps (sp ++ [(-77, 0), (-78, 0)])))
    (hn : a.sn ≤ 8796093022000) (hd : a.dn ≤ 140737488351232) :
    Calls Tryd.prog 17 #[(a.at_ (some ⟨gS, 0, none⟩) (a.sn + 2) (some ⟨gD, 0, none⟩) (a.dn + 2)).val] w fun e w' => e = .returned (.bool true) ∧ Nw w w' := by
  have hdl : dt.length = a.dn := by have := hD.1; rw [bys_len] at this; simp at this; omega
  have hsl : sp.length = a.sn := by have := hS.1; rw [sps_len] at this; simp at this; omega
  have hgD : gD < w.heap.size := own_lt hD rfl
  have hgS : gS < w.heap.size := own_lt hS rfl
  have hc1 := own_at hD (k := a.dn) (v := .int .u8 177) (by rw [bys_app, show a.dn = (bys dt).length from by rw [bys_len, hdl], at_app0]; rfl)
  have hc2 := own_at hD (k := a.dn + 1) (v := .int .u8 178) (by rw [bys_app, show a.dn = (bys dt).length from by rw [bys_len, hdl], at_app]; rfl)
  have hc3 := own_atn hS (k := a.sn * 2) (v := .int .i64 (-77)) (by rw [sps_app, show a.sn * 2 = (sps sp).length from by rw [sps_len, hsl], at_app0]; rfl)
  have hc4 := own_atn hS (k := (a.sn + 1) * 2) (v := .int .i64 (-78)) (by rw [sps_app, show (a.sn + 1) * 2 = (sps sp).length + 2 from by rw [sps_len, hsl]; omega, at_app]; rfl)
  show Calls Tryd.prog 17 #[.agg #[.int .i64 a.k, .int .i64 a.o, .int .i64 a.n, .int .i64 a.p, .int .i64 a.v, .int .i64 a.f, .int .i64 a.r, .int .i64 a.z, .int .i64 a.h, .slice (some ⟨gS, 0, none⟩) a.sn (a.sn + 2), .slice (some ⟨gD, 0, none⟩) a.dn (a.dn + 2)]] w _
  clear hD hS hdl hsl
  go_enter Tryd.func17, Tryd.ntmps17
  go_wp2
  go_ret
  exact ⟨rfl, (Kp.refl _ _).alloc _⟩

theorem rep_bys (k : Nat) (m : UInt8) (l : List UInt8) (hk : k < l.length) : (bys (List.replicate k m ++ l.drop k)).set k (bv m) = bys (List.replicate (k + 1) m ++ l.drop (k + 1)) := by
  rw [bys_set]
  congr 1
  have := set_app0 (List.replicate k m) m (l.drop k)
  rw [List.length_replicate] at this
  rw [this, List.drop_eq_getElem_cons hk, List.set_cons_zero, List.replicate_succ', List.append_assoc]
  rfl
theorem rep_sps (k : Nat) (m : Int × Int) (l : List (Int × Int)) (hk : k < l.length) : ((sps (List.replicate k m ++ l.drop k)).set (k * 2) (.int .i64 m.1)).set (k * 2 + 1) (.int .i64 m.2) = sps (List.replicate (k + 1) m ++ l.drop (k + 1)) := by
  have hl : (sps (List.replicate k m)).length = k * 2 := by rw [sps_len, List.length_replicate]
  rw [sps_app, ← hl, set_app0, set_app, List.drop_eq_getElem_cons hk, List.replicate_succ', List.append_assoc, sps_app]
  rfl
set_option maxRecDepth 100000 in
set_option maxHeartbeats 6400000 in
theorem spoil_any (a : Rc) (m : Int) (bD bS : Nat) (sp : List (Int × Int)) (dt : List UInt8) (w : World)
    (hD : w.ownsRow bD 5 1 (.slice a.D a.dn a.dc) a.dn (bys dt))
    (hS : w.ownsRow bS 56 2 (.slice a.S a.sn a.sc) a.sn (sps sp))
    (hn : a.sn ≤ 8796093022100) (hd : a.dn ≤ 140737488351300) (hm0 : 0 ≤ m) (hm1 : m ≤ 4611686018427387903) :
    Calls Tryd.prog 18 #[a.val, .int .i64 m] w fun e w' => e = .returned (.tuple #[]) ∧
      w'.ownsRow bD 5 1 (.slice a.D a.dn a.dc) a.dn (bys (List.replicate a.dn (UInt8.ofNat m.toNat))) ∧
      w'.ownsRow bS 56 2 (.slice a.S a.sn a.sc) a.sn (sps (List.replicate a.sn (-1 - m, 0))) ∧
      Kp (fun g => (Value.slice a.D a.dn a.dc).ownBlock = some g ∨ (Value.slice a.S a.sn a.sc).ownBlock = some g) w w' := by
  have hdl : dt.length = a.dn := by have := hD.1; rw [bys_len] at this; omega
  have hsl : sp.length = a.sn := by have := hS.1; rw [sps_len] at this; omega
  obtain ⟨S, hSe⟩ : ∃ S, a.S = S := ⟨_, rfl⟩
  obtain ⟨D, hDe⟩ : ∃ D, a.D = D := ⟨_, rfl⟩
  have hval : a.val = .agg #[.int .i64 a.k, .int .i64 a.o, .int .i64 a.n, .int .i64 a.p, .int .i64 a.v, .int .i64 a.f, .int .i64 a.r, .int .i64 a.z, .int .i64 a.h, .slice S a.sn a.sc, .slice D a.dn a.dc] := by rw [← hSe, ← hDe]; rfl
  rw [hval]
  rw [hDe] at hD ⊢
  rw [hSe] at hS ⊢
  clear hval hDe hSe
  have hlD : ∀ g, (Value.slice D a.dn a.dc).ownBlock = some g → g < w.heap.size := fun g hg => own_lt hD hg
  have hlS : ∀ g, (Value.slice S a.sn a.sc).ownBlock = some g → g < w.heap.size := fun g hg => own_lt hS hg
  have hb0 := own_lit (e := 36) (size := 1) (base := w.heap.size) w #[.int .i64 a.k, .int .i64 a.o, .int .i64 a.n, .int .i64 a.p, .int .i64 a.v, .int .i64 a.f, .int .i64 a.r, .int .i64 a.z, .int .i64 a.h, .slice S a.sn a.sc, .slice D a.dn a.dc] 11 (by simp [maxLen]) rfl (Nat.le_refl _)
  have hn0 : Nw w (w.alloc (.cells #[.int .i64 a.k, .int .i64 a.o, .int .i64 a.n, .int .i64 a.p, .int .i64 a.v, .int .i64 a.f, .int .i64 a.r, .int .i64 a.z, .int .i64 a.h, .slice S a.sn a.sc, .slice D a.dn a.dc] 36)) := (Kp.refl _ _).alloc _
  have hD1 := own_nw hD hn0
  have hS1 := own_nw hS hn0
  obtain ⟨W1, hW1⟩ : ∃ W1, W1 = w.alloc (.cells #[.int .i64 a.k, .int .i64 a.o, .int .i64 a.n, .int .i64 a.p, .int .i64 a.v, .int .i64 a.f, .int .i64 a.r, .int .i64 a.z, .int .i64 a.h, .slice S a.sn a.sc, .slice D a.dn a.dc] 36) := ⟨_, rfl⟩
  rw [← hW1] at hb0 hn0 hD1 hS1
  have HB0 := Lib.hid hb0
  have HD1 := Lib.hid hD1
  have HS1 := Lib.hid hS1
  have HLD := Lib.hid hlD
  have HLS := Lib.hid hlS
  have HN0 := Lib.hid hn0
  have HDL := Lib.hid hdl
  have HSL := Lib.hid hsl
  have HW1 := Lib.hid hW1
  have hmb : IntKind.u8.wrap m = ((UInt8.ofNat m.toNat).toNat : Int) := by
    rw [IntKind.wrap_u8, UInt8.toNat_ofNat']
    omega
  clear hb0 hn0 hD hS hD1 hS1 hlD hlS hdl hsl
  generalize UInt8.ofNat m.toNat = mb at *
  go_enter Tryd.func18, Tryd.ntmps18
  go_wp2
  rw [← hW1]
  clear hW1
  go_loopw [4] (fun i wr => ∃ k : Nat, k ≤ a.dn ∧ i = .int .i64 k ∧ wr.ownsRow bD 5 1 (.slice D a.dn a.dc) a.dn (bys (List.replicate k mb ++ dt.drop k)) ∧ Kp (fun g => (Value.slice D a.dn a.dc).ownBlock = some g) W1 wr) (fun i _ => a.dn - (intOf i).toNat)
  case atStart => exact ⟨0, by omega, rfl, by simpa using HD1.out, Kp.refl _ _⟩
  case round =>
    obtain ⟨k, hk, rfl, how, hkp⟩ := hrel
    have hbr := own_kp HB0.out hkp (fun g e h => by have := HLD.out _ h; simp [Value.ownBlock] at e; omega)
    have hp9 := own_at hbr (k := 9) rfl
    have hp10 := own_at hbr (k := 10) rfl
    by_cases hlt : k < a.dn
    · obtain ⟨g, rfl⟩ := own_some how (by omega)
      have hst := how.stored k (bv mb)
      rw [rep_bys k _ _ (by rw [HDL.out]; exact hlt)] at hst
      have hfz := how.frozenAt k
      have hlen := how.1
      rw [Nat.mul_one] at hlen
      have hcl := own_at how (List.getElem?_eq_getElem (l := bys (List.replicate k mb ++ dt.drop k)) (i := k) (by omega))
      generalize (bys (List.replicate k mb ++ dt.drop k))[k]'(by omega) = vv at hcl
      unfold bv at hst
      have HST := Lib.hid hst
      clear hst hlen how
      have h1 : (k : Int) < (a.dn : Int) := by omega
      have h0 : (0 : Int) ≤ (k : Int) := by omega
      go_wp2
      go_roundw
      case rel => exact ⟨k + 1, by omega, by go_num, HST.out.1, hkp.trans (Kp.of_grown HST.out.2) fun i hi e => by injection e with e; rw [e]; rfl⟩
      case measure => simp [intOf]; omega
    · have hkd : k = a.dn := by omega
      subst hkd
      rw [List.drop_of_length_le (by rw [HDL.out]; exact Nat.le_refl _), List.append_nil] at how
      have HDW := Lib.hid how
      have HBR := Lib.hid hbr
      have hSr := own_kp HS1.out hkp (fun g hg => own_ty HS1.out HD1.out (by decide) hg)
      have HSR := Lib.hid hSr
      obtain ⟨W2, rfl⟩ : ∃ W2 : World, W2 = wr := ⟨_, rfl⟩
      clear how hbr hSr
      go_wp2
      clear hp9 hp10
      go_loopw [5] (fun i wr => ∃ k : Nat, k ≤ a.sn ∧ i = .int .i64 k ∧ wr.ownsRow bS 56 2 (.slice S a.sn a.sc) a.sn (sps (List.replicate k (-1 - m, 0) ++ sp.drop k)) ∧ Kp (fun g => (Value.slice S a.sn a.sc).ownBlock = some g) W2 wr) (fun i _ => a.sn - (intOf i).toNat)
      case atStart => exact ⟨0, by omega, rfl, by simpa using HSR.out, Kp.refl _ _⟩
      case round =>
        obtain ⟨k, hk, rfl, how, hkq⟩ := hrel
        have hbr := own_kp HBR.out hkq (fun g e h => by have := HLS.out _ h; simp [Value.ownBlock] at e; omega)
        have hp9 := own_at hbr (k := 9) rfl
        have hp10 := own_at hbr (k := 10) rfl
        by_cases hlt : k < a.sn
        · obtain ⟨g, rfl⟩ := own_some how (by omega)
          have hst := how.stored (k * 2) (.int .i64 (-1 - m))
          have hst2 := hst.1.stored (k * 2 + 1) (.int .i64 0)
          have hrs := rep_sps k (-1 - m, 0) sp (by rw [HSL.out]; exact hlt)
          simp only at hrs
          rw [hrs] at hst2
          have hlen := how.1
          have hfz := how.frozenAt (k * 2)
          have hfz2 := hst.1.frozenAt (k * 2 + 1)
          have hcl := own_atn how (List.getElem?_eq_getElem (l := sps (List.replicate k (-1 - m, 0) ++ sp.drop k)) (i := k * 2) (by omega))
          have hcl2 := own_atn hst.1 (List.getElem?_eq_getElem (l := (sps (List.replicate k (-1 - m, 0) ++ sp.drop k)).set (k * 2) (.int .i64 (-1 - m))) (i := k * 2 + 1) (by rw [List.length_set]; omega))
          generalize (sps (List.replicate k (-1 - m, 0) ++ sp.drop k))[k * 2]'(by omega) = vv at hcl
          generalize ((sps (List.replicate k (-1 - m, 0) ++ sp.drop k)).set (k * 2) (.int .i64 (-1 - m)))[k * 2 + 1]'(by rw [List.length_set]; omega) = vv2 at hcl2
          have HST := Lib.hid hst2
          have HST1 := Lib.hid hst
          clear hst hst2 hlen how hrs
          have h1 : (k : Int) < (a.sn : Int) := by omega
          have h0 : (0 : Int) ≤ (k : Int) := by omega
          go_wp2
          go_roundw
          case rel => exact ⟨k + 1, by omega, by go_num, HST.out.1, hkq.trans ((Kp.of_grown HST1.out.2).trans (Kp.of_grown HST.out.2) fun _ _ e => e) fun i hi e => by injection e with e; rw [e]; rfl⟩
          case measure => simp [intOf]; omega
        · have hkd : k = a.sn := by omega
          subst hkd
          rw [List.drop_of_length_le (by rw [HSL.out]; exact Nat.le_refl _), List.append_nil] at how
          have HSW := Lib.hid how
          clear how hbr
          go_wp2
          go_end0
          refine ⟨rfl, own_kp HDW.out hkq (fun g hg => own_ty HDW.out HSR.out (by decide) hg), HSW.out, ?_⟩
          refine HN0.out.kp0 ((hkp.mono fun k _ e => .inl e).trans (hkq.mono fun k _ e => .inr e) fun _ _ e => e)

end Go.Proofs.YtjgnapjhlhdgfaaDoor

namespace Go.Proofs.YtjgnapjhlhdgfaaDoor
open Go.RowKit

theorem okR_at (a : Rc) (S : Option Addr) (sc : Nat) (D : Option Addr) (dc : Nat) (sp : List (Int × Int)) : okR (a.at_ S sc D dc) sp = okR a sp := rfl
theorem prO_at (a : Rc) (S : Option Addr) (sc : Nat) (D : Option Addr) (dc : Nat) (sp : List (Int × Int)) (dt : List UInt8) : prO (a.at_ S sc D dc) sp dt = prO a sp dt := rfl
theorem blk_kp {w w' : World} {S : Nat → Prop} {b : Nat} {o : Obj} (h : w.heap[b]? = some o) (k : Kp S w w') (hn : ¬ S b) : w'.heap[b]? = some o :=
  (k.block b (Array.getElem?_eq_some_iff.1 h).1 hn).trans h
theorem blk_nw {w w' : World} {b : Nat} {o : Obj} (h : w.heap[b]? = some o) (k : Nw w w') : w'.heap[b]? = some o := blk_kp h k fun e => e
theorem cutB {w : World} {base e g n : Nat} {l : List UInt8} (hn : l.length = n) (h : w.ownsRow base e 1 (.slice (some ⟨g, 0, none⟩) (n + 2) (n + 2)) (n + 2) (bys (l ++ [177, 178]))) : w.ownsRow base e 1 (.slice (some ⟨g, 0, none⟩) n (n + 2)) n (bys l) := by
  have := own_take h (k := n) (by omega) (by simp)
  rwa [bys_app, List.take_left' (by rw [bys_len, hn, Nat.mul_one])] at this
theorem cutS {w : World} {base e g n : Nat} {l : List (Int × Int)} (hn : l.length = n) (h : w.ownsRow base e 2 (.slice (some ⟨g, 0, none⟩) (n + 2) (n + 2)) (n + 2) (sps (l ++ [(-77, 0), (-78, 0)]))) : w.ownsRow base e 2 (.slice (some ⟨g, 0, none⟩) n (n + 2)) n (sps l) := by
  have := own_take h (k := n) (by omega) (by simp)
  rwa [sps_app, List.take_left' (by rw [sps_len, hn])] at this
theorem prO_len {a : Rc} {sp : List (Int × Int)} {dt : List UInt8} (hs : sp.length = a.sn) (hd : dt.length = a.dn) : (prO a sp dt).length ≤ 490001 := by
  unfold prO
  split
  · exact prR_len (okR_f ‹_›) hs hd
  · simp

end Go.Proofs.YtjgnapjhlhdgfaaDoor
