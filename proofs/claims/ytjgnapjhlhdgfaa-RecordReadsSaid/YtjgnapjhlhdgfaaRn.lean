/- Records: one that is lent. -/
import Derived.Test.YtjgnapjhlhdgfaaRm
set_option linter.unusedVariables false
set_option linter.unusedSimpArgs false
namespace Go.Proofs.Ytjgnapjhlhdgfaa
open Go.RowKit

theorem opAt (n : Nat) {P : Program} {ops : Array Oper} {rest : List Oper} {a : Act} {Q : Exit → Act → World → Prop} {w : World} {b c d e f} (h : wpList P ops Q (Oper.mk (some n) b c d e f :: rest) a w) :
    wpList P ops Q (Oper.mk (some n) b c d e f :: rest) a w := h
theorem Try.elSp : Elem Try.prog 24 47 (.agg #[.int .i64 0, .int .i64 0]) 2 16 := ⟨Try.underlying24, by kernel_rfl, rfl, by omega⟩

theorem made1 (u : Value) (n : Nat) : (madeCells #[u] n).toList = List.replicate n u := toList_madeCells_one _ _
theorem made2 (n : Nat) : (madeCells #[.int .i64 0, .int .i64 0] n).toList = List.replicate n (.int .i64 0) := by
  apply List.ext_getElem
  · simp [madeCells]
  · intro i h1 h2
    have : i % 2 = 0 ∨ i % 2 = 1 := by omega
    rcases this with h | h <;> simp [madeCells, h]
/-- A row of bytes with its two marks behind. -/
theorem marksB {w2 : World} {base e g n : Nat} {l : List UInt8} (hn : l.length = n) (h : w2.ownsRow base e 1 (.slice (some ⟨g, 0, none⟩) (n + 2) (n + 2)) (n + 2) (bys l ++ (madeCells #[.int .u8 0] ((n + 2) * 1)).toList.drop (n * 1))) :
    w2.cell? ⟨g, n, none⟩ = some (.int .u8 0) ∧ w2.frozen? ⟨g, n, none⟩ = false ∧ (w2.setCell ⟨g, n, none⟩ (.int .u8 177)).cell? ⟨g, n + 1, none⟩ = some (.int .u8 0) ∧ (w2.setCell ⟨g, n, none⟩ (.int .u8 177)).frozen? ⟨g, n + 1, none⟩ = false ∧
    Hid (((w2.setCell ⟨g, n, none⟩ (.int .u8 177)).setCell ⟨g, n + 1, none⟩ (.int .u8 178)).ownsRow base e 1 (.slice (some ⟨g, 0, none⟩) (n + 2) (n + 2)) (n + 2) (bys (l ++ [177, 178])) ∧
      Kp (fun k => k = g) w2 ((w2.setCell ⟨g, n, none⟩ (.int .u8 177)).setCell ⟨g, n + 1, none⟩ (.int .u8 178))) := by
  subst hn
  have ez : (madeCells #[.int .u8 0] ((l.length + 2) * 1)).toList.drop (l.length * 1) = bys [0, 0] := by
    rw [Nat.mul_one, Nat.mul_one, made1, List.drop_replicate, show l.length + 2 - l.length = 2 from by omega]
    rfl
  rw [ez, ← bys_app] at h
  have hst2 := h.stored l.length (bv 177)
  rw [bys_set, show (l ++ [(0 : UInt8), 0]).set l.length 177 = l ++ [177, 0] from by simp] at hst2
  have hst3 := hst2.1.stored (l.length + 1) (bv 178)
  rw [bys_set, show (l ++ [(177 : UInt8), 0]).set (l.length + 1) 178 = l ++ [177, 178] from by simp] at hst3
  have ha : ∀ (W : World) (x y : UInt8), W.ownsRow base e 1 (.slice (some ⟨g, 0, none⟩) (l.length + 2) (l.length + 2)) (l.length + 2) (bys (l ++ [x, y])) → W.cell? ⟨g, l.length, none⟩ = some (bv x) ∧ W.cell? ⟨g, l.length + 1, none⟩ = some (bv y) := fun W x y hW =>
    ⟨own_at hW (k := l.length) (by simp [bys]), own_at hW (k := l.length + 1) (by simp [bys])⟩
  exact ⟨(ha _ _ _ h).1, h.frozenAt _, (ha _ _ _ hst2.1).2, hst2.1.frozenAt _, hst3.1, ((Kp.refl _ w2).one hst2.2).one hst3.2⟩

theorem own_atn {w : World} {base e size g n cap : Nat} {xs : List Value} (h : w.ownsRow base e size (.slice (some ⟨g, 0, none⟩) n cap) n xs) {k : Nat} {v : Value} (hb : xs[k]? = some v) :
    w.cell? ⟨g, k, none⟩ = some v := by
  have hl := h.1
  have hk := (List.getElem?_eq_some_iff.1 hb).1
  rw [h.cellAt k (by omega), hb]
theorem set_app {α : Type} (l : List α) (k : Nat) (x : α) (r : List α) : (l ++ r).set (l.length + k) x = l ++ r.set k x := by
  rw [List.set_append_right _ _ (by omega), Nat.add_sub_cancel_left]
theorem set_app0 {α : Type} (l : List α) (x : α) (r : List α) : (l ++ r).set l.length x = l ++ r.set 0 x := set_app l 0 x r
theorem at_app0 {α : Type} (l : List α) (r : List α) : (l ++ r)[l.length]? = r[0]? := by
  rw [List.getElem?_append_right (Nat.le_refl _), Nat.sub_self]
theorem at_app {α : Type} (l : List α) (k : Nat) (r : List α) : (l ++ r)[l.length + k]? = r[k]? := by
  rw [List.getElem?_append_right (by omega), Nat.add_sub_cancel_left]
theorem sps_app (a b : List (Int × Int)) : sps (a ++ b) = sps a ++ sps b := by simp [sps]
theorem sps_one (l : List (Int × Int)) : ∀ u ∈ sps l, u.oneCell' = true := by
  intro u hu
  obtain ⟨s, _, hs⟩ := List.mem_flatMap.1 hu
  simp [spv] at hs
  rcases hs with rfl | rfl <;> rfl
/-- A row of spans with its two marks behind. -/
theorem marksS {w2 : World} {base e g n : Nat} {l : List (Int × Int)} (hn : l.length = n) (h : w2.ownsRow base e 2 (.slice (some ⟨g, 0, none⟩) (n + 2) (n + 2)) (n + 2) (sps l ++ (List.replicate ((n + 2) * 2) (.int .i64 0)).drop (n * 2))) :
    (w2.cell? ⟨g, n * 2, none⟩ = some (.int .i64 0) ∧ w2.frozen? ⟨g, n * 2, none⟩ = false) ∧
    ((w2.setCell ⟨g, n * 2, none⟩ (.int .i64 (-77))).cell? ⟨g, n * 2 + 1, none⟩ = some (.int .i64 0) ∧ (w2.setCell ⟨g, n * 2, none⟩ (.int .i64 (-77))).frozen? ⟨g, n * 2 + 1, none⟩ = false) ∧
    (((w2.setCell ⟨g, n * 2, none⟩ (.int .i64 (-77))).setCell ⟨g, n * 2 + 1, none⟩ (.int .i64 0)).cell? ⟨g, (n + 1) * 2, none⟩ = some (.int .i64 0) ∧ ((w2.setCell ⟨g, n * 2, none⟩ (.int .i64 (-77))).setCell ⟨g, n * 2 + 1, none⟩ (.int .i64 0)).frozen? ⟨g, (n + 1) * 2, none⟩ = false) ∧
    ((((w2.setCell ⟨g, n * 2, none⟩ (.int .i64 (-77))).setCell ⟨g, n * 2 + 1, none⟩ (.int .i64 0)).setCell ⟨g, (n + 1) * 2, none⟩ (.int .i64 (-78))).cell? ⟨g, (n + 1) * 2 + 1, none⟩ = some (.int .i64 0) ∧
      (((w2.setCell ⟨g, n * 2, none⟩ (.int .i64 (-77))).setCell ⟨g, n * 2 + 1, none⟩ (.int .i64 0)).setCell ⟨g, (n + 1) * 2, none⟩ (.int .i64 (-78))).frozen? ⟨g, (n + 1) * 2 + 1, none⟩ = false) ∧
    Hid (((((w2.setCell ⟨g, n * 2, none⟩ (.int .i64 (-77))).setCell ⟨g, n * 2 + 1, none⟩ (.int .i64 0)).setCell ⟨g, (n + 1) * 2, none⟩ (.int .i64 (-78))).setCell ⟨g, (n + 1) * 2 + 1, none⟩ (.int .i64 0)).ownsRow base e 2 (.slice (some ⟨g, 0, none⟩) (n + 2) (n + 2)) (n + 2) (sps (l ++ [(-77, 0), (-78, 0)])) ∧
      Kp (fun k => k = g) w2 ((((w2.setCell ⟨g, n * 2, none⟩ (.int .i64 (-77))).setCell ⟨g, n * 2 + 1, none⟩ (.int .i64 0)).setCell ⟨g, (n + 1) * 2, none⟩ (.int .i64 (-78))).setCell ⟨g, (n + 1) * 2 + 1, none⟩ (.int .i64 0))) := by
  subst hn
  have ez : (List.replicate ((l.length + 2) * 2) (Value.int .i64 0)).drop (l.length * 2) = [.int .i64 0, .int .i64 0, .int .i64 0, .int .i64 0] := by
    rw [List.drop_replicate, show (l.length + 2) * 2 - l.length * 2 = 4 from by omega]
    rfl
  have hl := sps_len l
  rw [ez] at h
  rw [show (l.length + 1) * 2 = (sps l).length + 2 from by omega, show l.length * 2 = (sps l).length from by omega]
  have h1 := h.stored (sps l).length (.int .i64 (-77))
  rw [set_app0] at h1
  have h2 := h1.1.stored ((sps l).length + 1) (.int .i64 0)
  rw [set_app] at h2
  have h3 := h2.1.stored ((sps l).length + 2) (.int .i64 (-78))
  rw [set_app] at h3
  have h4 := h3.1.stored ((sps l).length + 3) (.int .i64 0)
  rw [set_app] at h4
  refine ⟨⟨own_atn h (by rw [at_app0]; rfl), h.frozenAt _⟩, ⟨own_atn h1.1 (by rw [at_app]; rfl), h1.1.frozenAt _⟩, ⟨own_atn h2.1 (by rw [at_app]; rfl), h2.1.frozenAt _⟩, ⟨own_atn h3.1 (by rw [show (sps l).length + 2 + 1 = (sps l).length + 3 from rfl, at_app]; rfl), h3.1.frozenAt _⟩, ?_, ?_⟩
  · rw [sps_app]
    exact h4.1
  · exact (((Kp.refl _ w2).one h1.2).one h2.2).one h3.2 |>.one h4.2

set_option maxRecDepth 100000 in
set_option maxHeartbeats 6400000 in
theorem lent_any (a : Rc) (ok okd : Nat → Prop) (sp : List (Int × Int)) (dt : List UInt8) (w : World) (hr : Rd w ok 2 a.S a.sn (sps sp)) (hrd : Rd w okd 1 a.D a.dn (bys dt))
    (hn : a.sn ≤ 8796093022000) (hd : a.dn ≤ 140737488351232) :
    Calls Try.prog 9 #[a.val] w fun e w' => ∃ gS gD, e = .returned (a.at_ (some ⟨gS, 0, none⟩) (a.sn + 2) (some ⟨gD, 0, none⟩) (a.dn + 2)).val ∧
      w'.ownsRow w.heap.size 5 1 (.slice (some ⟨gD, 0, none⟩) (a.dn + 2) (a.dn + 2)) (a.dn + 2) (bys (dt ++ [177, 178])) ∧
      w'.ownsRow w.heap.size 47 2 (.slice (some ⟨gS, 0, none⟩) (a.sn + 2) (a.sn + 2)) (a.sn + 2) (sps (sp ++ [(-77, 0), (-78, 0)])) ∧ Nw w w' := by
  have hval : a.val = .agg #[.int .i64 a.k, .int .i64 a.o, .int .i64 a.n, .int .i64 a.p, .int .i64 a.v, .int .i64 a.f, .int .i64 a.r, .int .i64 a.z, .int .i64 a.h, .slice a.S a.sn a.sc, .slice a.D a.dn a.dc] := rfl
  rw [hval]
  have eb := Try.elU8
  have es := Try.elSp
  have hmk : ∀ W : World, (Instr.makeSlice 25 (.int .i64 ((a.dn : Int) + 2)) (.int .i64 ((a.dn : Int) + 2))).run Try.prog W =
      .ok (.slice (some ⟨W.heap.size, 0, none⟩) (a.dn + 2) (a.dn + 2)) (W.alloc (.cells (madeCells #[.int .u8 0] (a.dn + 2)) 5)) := fun W => by
    have h := run_mk eb (a.dn + 2) (a.dn + 2) (Nat.le_refl _) (by omega) (by omega) W
    rw [Nat.mul_one] at h
    exact h
  have hmk2 : ∀ W : World, (Instr.makeSlice 24 (.int .i64 ((a.sn : Int) + 2)) (.int .i64 ((a.sn : Int) + 2))).run Try.prog W =
      .ok (.slice (some ⟨W.heap.size, 0, none⟩) (a.sn + 2) (a.sn + 2)) (W.alloc (.cells (madeCells #[.int .i64 0, .int .i64 0] ((a.sn + 2) * 2)) 47)) := fun W =>
    run_mk es (a.sn + 2) (a.sn + 2) (Nat.le_refl _) (by omega) (by omega) W
  have HO : Hid (∀ W : World, (W.alloc (.cells (madeCells #[.int .u8 0] (a.dn + 2)) 5)).ownsRow W.heap.size 5 1 (.slice (some ⟨W.heap.size, 0, none⟩) (a.dn + 2) (a.dn + 2)) (a.dn + 2) (madeCells #[.int .u8 0] ((a.dn + 2) * 1)).toList) := fun W => by
    have h := own_full (e := 5) (size := 1) (base := W.heap.size) W #[.int .u8 0] (a.dn + 2) (by simp only [maxLen]; omega) (Nat.le_refl _)
    rw [Nat.mul_one] at h ⊢
    exact h
  have HO2 : Hid (∀ W : World, (W.alloc (.cells (madeCells #[.int .i64 0, .int .i64 0] ((a.sn + 2) * 2)) 47)).ownsRow W.heap.size 47 2 (.slice (some ⟨W.heap.size, 0, none⟩) (a.sn + 2) (a.sn + 2)) (a.sn + 2) (List.replicate ((a.sn + 2) * 2) (.int .i64 0))) := fun W => by
    rw [← made2]
    exact own_full (e := 47) (size := 2) (base := W.heap.size) W #[.int .i64 0, .int .i64 0] (a.sn + 2) (by simp only [maxLen]; omega) (Nat.le_refl _)
  have hbx : Kp (fun _ => False) w ((w.alloc (.cells #[.int .i64 a.k, .int .i64 a.o, .int .i64 a.n, .int .i64 a.p, .int .i64 a.v, .int .i64 a.f, .int .i64 a.r, .int .i64 a.z, .int .i64 a.h, .slice a.S a.sn a.sc, .slice a.D a.dn a.dc] 27)).alloc (.cells #[.int .i64 0, .int .i64 0, .int .i64 0, .int .i64 0, .int .i64 0, .int .i64 0, .int .i64 0, .int .i64 0, .int .i64 0, .slice none 0 0, .slice none 0 0] 27)) := ((Kp.refl _ w).alloc _).alloc _
  have ho := HO.out ((w.alloc (.cells #[.int .i64 a.k, .int .i64 a.o, .int .i64 a.n, .int .i64 a.p, .int .i64 a.v, .int .i64 a.f, .int .i64 a.r, .int .i64 a.z, .int .i64 a.h, .slice a.S a.sn a.sc, .slice a.D a.dn a.dc] 27)).alloc (.cells #[.int .i64 0, .int .i64 0, .int .i64 0, .int .i64 0, .int .i64 0, .int .i64 0, .int .i64 0, .int .i64 0, .int .i64 0, .slice none 0 0, .slice none 0 0] 27))
  have hz2 : ((w.alloc (.cells #[.int .i64 a.k, .int .i64 a.o, .int .i64 a.n, .int .i64 a.p, .int .i64 a.v, .int .i64 a.f, .int .i64 a.r, .int .i64 a.z, .int .i64 a.h, .slice a.S a.sn a.sc, .slice a.D a.dn a.dc] 27)).alloc (.cells #[.int .i64 0, .int .i64 0, .int .i64 0, .int .i64 0, .int .i64 0, .int .i64 0, .int .i64 0, .int .i64 0, .int .i64 0, .slice none 0 0, .slice none 0 0] 27)).heap.size = w.heap.size + 1 + 1 := by simp
  rw [hz2] at ho
  have hb0 := own_nw (own_lit (e := 27) (size := 1) (base := 0) w #[.int .i64 a.k, .int .i64 a.o, .int .i64 a.n, .int .i64 a.p, .int .i64 a.v, .int .i64 a.f, .int .i64 a.r, .int .i64 a.z, .int .i64 a.h, .slice a.S a.sn a.sc, .slice a.D a.dn a.dc] 11 (by simp [maxLen]) rfl (Nat.zero_le _)) ((Kp.refl _ _).alloc (.cells #[.int .i64 0, .int .i64 0, .int .i64 0, .int .i64 0, .int .i64 0, .int .i64 0, .int .i64 0, .int .i64 0, .int .i64 0, .slice none 0 0, .slice none 0 0] 27))
  have hr0 := own_lit (e := 27) (size := 1) (base := 0) (w.alloc (.cells #[.int .i64 a.k, .int .i64 a.o, .int .i64 a.n, .int .i64 a.p, .int .i64 a.v, .int .i64 a.f, .int .i64 a.r, .int .i64 a.z, .int .i64 a.h, .slice a.S a.sn a.sc, .slice a.D a.dn a.dc] 27)) #[.int .i64 0, .int .i64 0, .int .i64 0, .int .i64 0, .int .i64 0, .int .i64 0, .int .i64 0, .int .i64 0, .int .i64 0, .slice none 0 0, .slice none 0 0] 11 (by simp [maxLen]) rfl (Nat.zero_le _)
  have hz1 : (w.alloc (.cells #[.int .i64 a.k, .int .i64 a.o, .int .i64 a.n, .int .i64 a.p, .int .i64 a.v, .int .i64 a.f, .int .i64 a.r, .int .i64 a.z, .int .i64 a.h, .slice a.S a.sn a.sc, .slice a.D a.dn a.dc] 27)).heap.size = w.heap.size + 1 := by simp
  rw [hz1] at hr0
  have HB0 := Lib.hid hb0
  have HR0 := Lib.hid hr0
  clear hb0 hr0 hz1
  have HSL : Hid (sp.length = a.sn) := by have := hr.1; rw [sps_len] at this; show _ = _; omega
  have HDL : Hid (dt.length = a.dn) := by have := hrd.len; rwa [bys_len] at this
  have HBX := Lib.hid hbx
  have HOW := Lib.hid ho
  have HRD := Lib.hid hr
  have HDD := Lib.hid hrd
  clear hbx ho hz2 hr hrd
  generalize madeCells #[.int .u8 0] (a.dn + 2) = zz at *
  go_enter Try.func9, Try.ntmps9
  go_upto_region 5 with (with_reducible refine opAt 13 ?_; refine wpList_copyv (o := ⟨some 13, _, _, _, _, _⟩) _ rfl (.tmp 10) (.tmp 12) 25 5 rfl eb (w.heap.size + 1 + 1) (w.heap.size + 1 + 1) _ _ _ HOW.out rfl _ a.D a.dn a.dc _ ((HDD.out.nw HBX.out).alloc _) rfl (bys_one _) (by omega) ?_; intro w3 hown3 hkp3; have hb3 := own_kp (own_nw HB0.out ((Kp.refl _ _).alloc (.cells zz 5))) hkp3 (fun g e h => by simp [Value.ownBlock] at e; omega); have hp9 := own_at hb3 (k := 9) rfl; have hp10 := own_at hb3 (k := 10) rfl; obtain ⟨hc1, hf1, hc2, hf2, HST⟩ := marksB HDL.out hown3; clear hown3)
  have hr3 := own_kp (own_nw HR0.out ((Kp.refl _ _).alloc (.cells zz 5))) hkp3 (fun g e h => by simp [Value.ownBlock] at e; omega)
  have hD4 := HST.out.1
  have hb4 := own_kp hb3 HST.out.2 (fun g e h => by simp [Value.ownBlock] at e; omega)
  have hr4 := own_kp hr3 HST.out.2 (fun g e h => by simp [Value.ownBlock] at e; omega)
  have hn4 : Nw w _ := (HBX.out.alloc (.cells zz 5)).trans (hkp3.trans HST.out.2 fun _ _ e => e) fun i hi e => by omega
  have hz4 : w.heap.size + 1 + 1 + 1 ≤ w3.heap.size := by have := hkp3.size; simp at this; omega
  have hz5 : (World.setCell (World.setCell w3 ⟨w.heap.size + 1 + 1, a.dn, none⟩ (.int .u8 177)) ⟨w.heap.size + 1 + 1, a.dn + 1, none⟩ (.int .u8 178)).heap.size = w3.heap.size := by simp
  rw [← hz5] at hz4
  clear hp9 hp10 hc1 hf1 hc2 hf2 HST hb3 hr3 hkp3 HOW HBX HB0 HR0 HO hmk hz5
  generalize World.setCell (World.setCell w3 ⟨w.heap.size + 1 + 1, a.dn, none⟩ (.int .u8 177)) ⟨w.heap.size + 1 + 1, a.dn + 1, none⟩ (.int .u8 178) = w4 at *
  have HOW := Lib.hid (HO2.out w4)
  have hp9 := own_at hb4 (k := 9) rfl
  have hp10 := own_at hb4 (k := 10) rfl
  have hlt4 : w.heap.size < w4.heap.size := by omega
  have HB4 := Lib.hid hb4
  have HR4 := Lib.hid hr4
  have HD4 := Lib.hid hD4
  clear hb4 hr4 hD4
  generalize madeCells #[.int .i64 0, .int .i64 0] ((a.sn + 2) * 2) = zz2 at hmk2 HOW HO2
  go_upto_region 9 with (with_reducible refine opAt 33 ?_; refine wpList_copyv (o := ⟨some 33, _, _, _, _, _⟩) _ rfl (.tmp 30) (.tmp 32) 24 47 rfl es w4.heap.size w4.heap.size _ _ _ HOW.out rfl _ a.S a.sn a.sc _ ((HRD.out.nw hn4).alloc _) rfl (sps_one _) (by omega) ?_; intro w5 hown5 hkp5; have hb5 := own_kp (own_nw HB4.out ((Kp.refl _ _).alloc (.cells zz2 47))) hkp5 (fun g e h => by simp [Value.ownBlock] at e; omega); clear hp9 hp10; have hp9 := own_at hb5 (k := 9) rfl; have hp10 := own_at hb5 (k := 10) rfl; obtain ⟨⟨hc1, hf1⟩, ⟨hc2, hf2⟩, ⟨hc3, hf3⟩, ⟨hc4, hf4⟩, HST⟩ := marksS HSL.out hown5; clear hown5)
  have hr5 := own_kp (own_nw HR4.out ((Kp.refl _ _).alloc (.cells zz2 47))) hkp5 (fun g e h => by simp [Value.ownBlock] at e; omega)
  have hD5 := own_kp (own_nw HD4.out ((Kp.refl _ _).alloc (.cells zz2 47))) hkp5 (fun g e h => by simp [Value.ownBlock] at e; omega)
  have hS6 := HST.out.1
  have hb6 := own_kp hb5 HST.out.2 (fun g e h => by simp [Value.ownBlock] at e; omega)
  have hr6 := own_kp hr5 HST.out.2 (fun g e h => by simp [Value.ownBlock] at e; omega)
  have hD6 := own_kp hD5 HST.out.2 (fun g e h => by simp [Value.ownBlock] at e; omega)
  have hn6 : Nw w _ := (hn4.alloc (.cells zz2 47)).trans (hkp5.trans HST.out.2 fun _ _ e => e) fun i hi e => by omega
  clear hp9 hp10 hc1 hf1 hc2 hf2 hc3 hf3 hc4 hf4 HST hb5 hr5 hD5 hkp5 HOW HB4 HR4 HD4 HO2 hmk2 hn4
  generalize World.setCell (World.setCell (World.setCell (World.setCell w5 ⟨w4.heap.size, a.sn * 2, none⟩ (.int .i64 (-77))) ⟨w4.heap.size, a.sn * 2 + 1, none⟩ (.int .i64 0)) ⟨w4.heap.size, (a.sn + 1) * 2, none⟩ (.int .i64 (-78))) ⟨w4.heap.size, (a.sn + 1) * 2 + 1, none⟩ (.int .i64 0) = w6 at *
  have HB6 := Lib.hid hb6
  have HR6 := Lib.hid hr6
  have HD6 := Lib.hid hD6
  have HS6 := Lib.hid hS6
  clear hb6 hr6 hD6 hS6
  have hp0 := own_at HB6.out (k := 0) rfl
  have hp1 := own_at HB6.out (k := 1) rfl
  have hp2 := own_at HB6.out (k := 2) rfl
  have hp3 := own_at HB6.out (k := 3) rfl
  have hp4 := own_at HB6.out (k := 4) rfl
  have hp5 := own_at HB6.out (k := 5) rfl
  have hp6 := own_at HB6.out (k := 6) rfl
  have hp7 := own_at HB6.out (k := 7) rfl
  have hp8 := own_at HB6.out (k := 8) rfl
  have hp9 := own_at HB6.out (k := 9) rfl
  have hp10 := own_at HB6.out (k := 10) rfl
  have hf9 := fun j => HB6.out.frozenAt j
  have ht0 := own_at HR6.out (k := 0) rfl
  have ht1 := own_at HR6.out (k := 1) rfl
  have ht2 := own_at HR6.out (k := 2) rfl
  have ht3 := own_at HR6.out (k := 3) rfl
  have ht4 := own_at HR6.out (k := 4) rfl
  have ht5 := own_at HR6.out (k := 5) rfl
  have ht6 := own_at HR6.out (k := 6) rfl
  have ht7 := own_at HR6.out (k := 7) rfl
  have ht8 := own_at HR6.out (k := 8) rfl
  have ht9 := own_at HR6.out (k := 9) rfl
  have ht10 := own_at HR6.out (k := 10) rfl
  have hg9 := fun j => HR6.out.frozenAt j
  go_wp2
  refine bodyPost_ret (v := (a.at_ (some ⟨w4.heap.size, 0, none⟩) (a.sn + 2) (some ⟨w.heap.size + 1 + 1, 0, none⟩) (a.dn + 2)).val) (by simp [results, Try.results9, go_sem, Rc.val, Rc.cells, Rc.at_, ht0, ht1, ht2, ht3, ht4, ht5, ht6, ht7, ht8, ht9, ht10]) rfl ?_
  have HK : ∀ (W : World) (p : Addr) (u : Value), Nw w W → w.heap.size ≤ p.block → Nw w (W.setCell p u) := fun W p u h hp => h.setCell (fun hl => by omega) u
  have HW : ∀ (W : World) (p : Addr) (u : Value) (b e s n : Nat) (v : Value) (xs : List Value), W.ownsRow b e s v n xs → v.ownBlock ≠ some p.block → (W.setCell p u).ownsRow b e s v n xs := fun W p u b e s n v xs h hp =>
    own_kp h ((Kp.refl (fun k => k = p.block) W).setCell (fun _ => rfl) u) fun g hg e => hp (by rw [hg, e])
  have hz : w.heap.size + 1 + 1 < w4.heap.size := by omega
  refine ⟨w4.heap.size, w.heap.size + 1 + 1, rfl, ?_, ?_, ?_⟩
  · refine own_base (base := w.heap.size + 1 + 1) ?_ (fun g hg => by simp [Value.ownBlock] at hg; omega)
    iterate 13 refine HW _ _ _ _ _ _ _ _ _ ?_ (by simp [Value.ownBlock] <;> omega)
    exact HD6.out
  · refine own_base (base := w4.heap.size) ?_ (fun g hg => by simp [Value.ownBlock] at hg; omega)
    iterate 13 refine HW _ _ _ _ _ _ _ _ _ ?_ (by simp [Value.ownBlock]; omega)
    exact HS6.out
  · iterate 13 refine HK _ _ _ ?_ (by simp)
    exact hn6

end Go.Proofs.Ytjgnapjhlhdgfaa
