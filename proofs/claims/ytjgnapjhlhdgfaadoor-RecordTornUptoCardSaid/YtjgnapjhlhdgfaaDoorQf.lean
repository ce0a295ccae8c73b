/- Records: the reference's Read of some bytes. -/
import Derived.Test.YtjgnapjhlhdgfaaDoorQe
set_option linter.unusedVariables false
set_option linter.unusedSimpArgs false
namespace Go.Proofs.YtjgnapjhlhdgfaaDoor
open Go.RowKit

def NO : RSt × Int := (⟨zeroR, [], [], []⟩, 61)
def ansO (R : Option RSt) : RSt × Int :=
  match R with
  | none => NO
  | some s => if s.r = [] ∧ okR s.a s.sp = true then (s, 0) else NO
/-- What is known ahead of the field j. -/
structure RefInv (w wr : World) (A : Option Addr) (c : Nat) (ok : Nat → Prop) (xs : List UInt8) (kk : Int) (R : Option RSt) (O : RSt × Int) (j : Nat) (s : RSt) (S : Option Addr) (sc : Nat) (D : Option Addr) (dc : Nat) (p : Nat) (bad : Bool) : Prop where
  rdr : Rdr wr (w.heap.size + 1 + 1) A c ok xs p bad
  res : wr.heap[w.heap.size]? = some (.cells zeroC 36 (0, 0))
  rcd : wr.heap[w.heap.size + 1]? = some (.cells (s.a.at_ S sc D dc).cells 36 (0, 0))
  os : wr.ownsRow (w.heap.size + 3) 56 2 (.slice S s.a.sn sc) s.a.sn (sps s.sp)
  od : wr.ownsRow (w.heap.size + 3) 5 1 (.slice D s.a.dn dc) s.a.dn (bys s.dt)
  bn : s.a.sn ≤ 131080 ∧ s.a.dn ≤ 131072
  nw : Nw w wr
  size : w.heap.size + 3 ≤ wr.heap.size
  yes : bad = false → s.r = xs.drop p ∧ rdL ((fds kk).drop j) s = R ∧ s.a.k = kk
  no : bad = true → O = NO
theorem RefInv.next {w wr wx : World} {A : Option Addr} {c : Nat} {ok : Nat → Prop} {xs : List UInt8} {kk : Int} {R : Option RSt} {O : RSt × Int} {j f : Nat} {s s' : RSt} {S S' : Option Addr} {sc sc' : Nat} {D D' : Option Addr} {dc dc' : Nat} {p p' : Nat} {bad bad' : Bool}
    (h : RefInv w wr A c ok xs kk R O j s S sc D dc p bad) (hj : (fds kk)[j]? = some f) (hk : Kp (fun g => g = w.heap.size + 1 ∨ g = w.heap.size + 1 + 1) wr wx) (hr : Rdr wx (w.heap.size + 1 + 1) A c ok xs p' bad')
    (hrcd : wx.heap[w.heap.size + 1]? = some (.cells (s'.a.at_ S' sc' D' dc').cells 36 (0, 0)))
    (hos : wx.ownsRow (w.heap.size + 3) 56 2 (.slice S' s'.a.sn sc') s'.a.sn (sps s'.sp)) (hod : wx.ownsRow (w.heap.size + 3) 5 1 (.slice D' s'.a.dn dc') s'.a.dn (bys s'.dt))
    (hb : s'.a.sn ≤ 131080 ∧ s'.a.dn ≤ 131072) (hy : bad' = false → bad = false ∧ rdF s f = some s' ∧ s'.r = xs.drop p' ∧ s'.a.k = s.a.k)
    (hn : bad' = true → bad = true ∨ rdF s f = none ∨ (f = 8 ∧ ∃ s1, rdF s f = some s1 ∧ s1.a.k = s.a.k ∧ ∃ x ∈ s1.sp, (4611686018427387903 : Int) < x.2))
    (hON : R = none → O = NO) (hOS : ∀ s, R = some s → O = if s.r = [] ∧ okR s.a s.sp = true then (s, 0) else NO) :
    RefInv w wx A c ok xs kk R O (j + 1) s' S' sc' D' dc' p' bad' := by
  have hjl := (List.getElem?_eq_some_iff.1 hj)
  have hstep : bad = false → (rdF s f).bind (rdL ((fds kk).drop (j + 1))) = R := fun hb => by
    have e := (h.yes hb).2.1
    rw [List.drop_eq_getElem_cons hjl.1, hjl.2] at e
    exact e
  have hsz := h.size
  refine ⟨hr, blk_kp h.res hk (by omega), hrcd, hos, hod, hb, h.nw.trans hk (fun i hi e => by omega), by have := hk.size; omega, fun hb' => ?_, fun hb' => ?_⟩
  · obtain ⟨h1, h2, h3, h4⟩ := hy hb'
    have e := hstep h1
    rw [h2] at e
    exact ⟨h3, e, by rw [h4]; exact (h.yes h1).2.2⟩
  · cases hbad : bad with
    | true => exact h.no hbad
    | false =>
      have e := hstep hbad
      rcases hn hb' with h1 | h1 | ⟨rfl, s1, h1, h2, h3⟩
      · rw [hbad] at h1
        cases h1
      · rw [h1] at e
        exact hON e.symm
      · rw [h1] at e
        simp only [Option.bind_some] at e
        cases hR : R with
        | none => exact hON hR
        | some s2 =>
          rw [hOS s2 hR, if_neg]
          rintro ⟨_, hx⟩
          rw [hR] at e
          rw [doomed hj (by rw [h2]; exact (h.yes hbad).2.2) h3 e] at hx
          cases hx

theorem alloc3 (w : World) (o1 o2 o3 : Obj) : (((w.alloc o1).alloc o2).alloc o3).heap[w.heap.size]? = some o1 ∧ (((w.alloc o1).alloc o2).alloc o3).heap[w.heap.size + 1]? = some o2 ∧ (((w.alloc o1).alloc o2).alloc o3).heap[w.heap.size + 2]? = some o3 ∧
    (((w.alloc o1).alloc o2).alloc o3).heap.size = w.heap.size + 3 ∧ Nw w (((w.alloc o1).alloc o2).alloc o3) := by
  have e2 : ((w.alloc o1).alloc o2).heap.size = w.heap.size + 2 := by simp
  refine ⟨?_, ?_, ?_, by simp, (((Kp.refl _ w).alloc _).alloc _).alloc _⟩
  · rw [heap_alloc_old _ _ (by omega)]
    exact heap_alloc2_old _ _ _
  · rw [heap_alloc_old _ _ (by omega)]
    exact heap_alloc2_new _ _ _
  · rw [← e2]
    exact heap_alloc_new _ _
theorem RefInv.more {w wr wx : World} {A : Option Addr} {c : Nat} {ok : Nat → Prop} {xs : List UInt8} {kk : Int} {R : Option RSt} {O : RSt × Int} {j : Nat} {s : RSt} {S : Option Addr} {sc : Nat} {D : Option Addr} {dc : Nat} {p : Nat} {bad : Bool}
    (h : RefInv w wr A c ok xs kk R O j s S sc D dc p bad) (hk : Nw wr wx) : RefInv w wx A c ok xs kk R O j s S sc D dc p bad :=
  ⟨h.rdr.nw hk, blk_nw h.res hk, blk_nw h.rcd hk, own_nw h.os hk, own_nw h.od hk, h.bn, h.nw.nw hk, by have := hk.size; have := h.size; omega, h.yes, h.no⟩

set_option maxRecDepth 100000 in
set_option maxHeartbeats 6400000 in
theorem refread_some (A : Option Addr) (n c : Nat) (ok : Nat → Prop) (b : UInt8) (r : List UInt8) (w : World) (hr : Rd w ok 1 A n (bys (b :: r))) (hnc : n ≤ c) (hn : n ≤ 131072) (hok : ∀ g, ok g → g < w.heap.size) :
    Calls Tryd.prog 48 #[.slice A n c] w (ReadPost w (rdA (b :: r))) := by
  have hl : r.length + 1 = n := by have := hr.len; rw [bys_len] at this; simpa using this
  have hn0 : ((n : Int) == 0) = false := by rw [beq_eq_false_iff_ne]; omega
  have hn1 : ¬ (131072 : Int) < (n : Int) := by omega
  have h0n : (0 : Int) < (n : Int) := by omega
  obtain ⟨ad, rfl, _, hcb⟩ := hr.byte (k := 0) (by simp)
  rw [add_zero_] at hcb
  simp only [List.getElem_cons_zero] at hcb
  have hadw : ad.block < w.heap.size := World.block_lt_of_cell? _ _ hcb
  have hO : rdA (b :: r) = ansO (rdL (fds (b.toNat : Int)) (rd0 b r)) := by
    unfold rdA rdR ansO
    simp only
    cases rdL (fds (b.toNat : Int)) (rd0 b r) with
    | none => rfl
    | some s => by_cases h : s.r = [] ∧ okR s.a s.sp = true <;> simp [h] <;> rfl
  rw [hO]
  clear hO
  obtain ⟨R, hR⟩ : ∃ R, R = rdL (fds (b.toNat : Int)) (rd0 b r) := ⟨_, rfl⟩
  rw [← hR]
  have HON : Hid (R = none → ansO R = NO) := fun h => by rw [h]; rfl
  have HOS : Hid (∀ s, R = some s → ansO R = if s.r = [] ∧ okR s.a s.sp = true then (s, 0) else NO) := fun s h => by rw [h]; rfl
  generalize ansO R = O at *
  obtain ⟨xs, hxs⟩ : ∃ xs, xs = b :: r := ⟨_, rfl⟩
  obtain ⟨s0, hs0⟩ : ∃ s0, s0 = rd0 b r := ⟨_, rfl⟩
  obtain ⟨x, hx⟩ : ∃ x, x = b.toNat := ⟨_, rfl⟩
  have hb256 : x < 256 := by rw [hx]; exact b.toNat_lt
  have HY : Hid (s0.r = xs.drop 1 ∧ rdL ((fds (x : Int)).drop 0) s0 = R ∧ s0.a.k = (x : Int)) := by rw [hxs, hs0, hx]; exact ⟨rfl, hR.symm, rfl⟩
  have HNL : Hid (s0.a.sn = 0 ∧ s0.a.dn = 0 ∧ s0.sp = [] ∧ s0.dt = []) := by rw [hs0]; exact ⟨rfl, rfl, rfl, rfl⟩
  have HCS : Hid (#[.int .i64 (x : Int), .int .i64 0, .int .i64 0, .int .i64 0, .int .i64 0, .int .i64 0, .int .i64 0, .int .i64 0, .int .i64 0, .slice none 0 0, .slice none 0 0] = (s0.a.at_ none 0 none 0).cells) := by rw [hs0, hx]; rfl
  have hxl : xs.length = n := by rw [hxs]; simpa using hl
  rw [← hxs] at hr
  rw [← hx] at hcb
  have HFD := Lib.hid (fun W => rfields_any (x : Int) W)
  have hsz : (sb ((fds (x : Int)).map let_)).size = (fds (x : Int)).length := by rw [sb_size, List.length_map]
  have hsg : ∀ (S : ByteArray), sb ((fds (x : Int)).map let_) = S → ∀ (j : Nat) (h : j < S.size) (h' : j < (fds (x : Int)).length), S[j]'h = let_ ((fds (x : Int))[j]'h') := by
    intro S e
    subst e
    intro j h h'
    exact (show (sb ((fds (x : Int)).map let_))[j]'h = ((fds (x : Int)).map let_)[j]'(by rwa [List.length_map]) from rfl).trans (List.getElem_map _)
  have hl7 := fds_len (x : Int)
  have HLT : Hid (∀ f ∈ fds (x : Int), f < 10) := fds_lt _
  generalize sb ((fds (x : Int)).map let_) = SS at *
  have HSG := Lib.hid (hsg SS rfl)
  have HRD := Lib.hid hr
  clear hR hsg hr hl hxs hs0 hx
  obtain ⟨e1, e2, e3, e4, e5⟩ := alloc3 w (.cells #[.int .i64 0, .int .i64 0, .int .i64 0, .int .i64 0, .int .i64 0, .int .i64 0, .int .i64 0, .int .i64 0, .int .i64 0, .slice none 0 0, .slice none 0 0] 36) (.cells #[.int .i64 (x : Int), .int .i64 0, .int .i64 0, .int .i64 0, .int .i64 0, .int .i64 0, .int .i64 0, .int .i64 0, .int .i64 0, .slice none 0 0, .slice none 0 0] 36) (.cells #[.slice (some ad) n c, .int .i64 1, .bool false] 123)
  have HI0 : Hid (∃ s S sc D dc p bad, RefInv w (((w.alloc (.cells #[.int .i64 0, .int .i64 0, .int .i64 0, .int .i64 0, .int .i64 0, .int .i64 0, .int .i64 0, .int .i64 0, .int .i64 0, .slice none 0 0, .slice none 0 0] 36)).alloc (.cells #[.int .i64 (x : Int), .int .i64 0, .int .i64 0, .int .i64 0, .int .i64 0, .int .i64 0, .int .i64 0, .int .i64 0, .int .i64 0, .slice none 0 0, .slice none 0 0] 36)).alloc (.cells #[.slice (some ad) n c, .int .i64 1, .bool false] 123)) (some ad) c ok xs (x : Int) R O 0 s S sc D dc p bad) := by
    subst hxl
    have hn0 := HNL.out
    refine ⟨s0, none, 0, none, 0, 1, false, ⟨e3, HRD.out.nw e5, hnc, hn, fun g hg => by have := hok g hg; omega, by omega⟩, e1, ?_, ?_, ?_, ?_, e5, by omega, fun _ => HY.out, fun h => by cases h⟩
    · rw [e2, ← HCS.out]
    · rw [hn0.1, hn0.2.2.1]
      exact World.ownsRow_nil _ _ _ _
    · rw [hn0.2.1, hn0.2.2.2]
      exact World.ownsRow_nil _ _ _ _
    · rw [hn0.1, hn0.2.1]
      omega
  have hc0 : (((w.alloc (.cells #[.int .i64 0, .int .i64 0, .int .i64 0, .int .i64 0, .int .i64 0, .int .i64 0, .int .i64 0, .int .i64 0, .int .i64 0, .slice none 0 0, .slice none 0 0] 36)).alloc (.cells #[.int .i64 (x : Int), .int .i64 0, .int .i64 0, .int .i64 0, .int .i64 0, .int .i64 0, .int .i64 0, .int .i64 0, .int .i64 0, .slice none 0 0, .slice none 0 0] 36)).alloc (.cells #[.slice (some ad) n c, .int .i64 1, .bool false] 123)).cell? ⟨w.heap.size + 1, 0, none⟩ = some (.int .i64 (x : Int)) := cell_of_row _ (w.heap.size + 1) 0 _ _ _ e2
  clear e1 e2 e3 e4 e5
  go_enter Tryd.func48, Tryd.ntmps48
  go_upto_region 7 with (fail)
  generalize ((w.alloc (.cells #[.int .i64 0, .int .i64 0, .int .i64 0, .int .i64 0, .int .i64 0, .int .i64 0, .int .i64 0, .int .i64 0, .int .i64 0, .slice none 0 0, .slice none 0 0] 36)).alloc (.cells #[.int .i64 (x : Int), .int .i64 0, .int .i64 0, .int .i64 0, .int .i64 0, .int .i64 0, .int .i64 0, .int .i64 0, .int .i64 0, .slice none 0 0, .slice none 0 0] 36)).alloc (.cells #[.slice (some ad) n c, .int .i64 1, .bool false] 123) = w3 at *
  go_wp2_with fail
  refine (HFD.out w3).mono ?_
  rintro e w4 ⟨rfl, hnw4⟩
  have hI : Hid (∃ s S sc D dc p bad, RefInv w w4 (some ad) c ok xs (x : Int) R O 0 s S sc D dc p bad) := by
    obtain ⟨s, S, sc, D, dc, p, bad, h⟩ := HI0.out
    exact ⟨s, S, sc, D, dc, p, bad, h.more hnw4⟩
  clear hc0 HI0 hnw4 hcb
  obtain ⟨l, hlf⟩ : ∃ l, l = fds (x : Int) := ⟨_, rfl⟩
  rw [← hlf] at HLT HSG hsz hl7
  have HLF := Lib.hid hlf
  clear hlf
  go_wp2_with fail
  go_loopw [7] (fun i wr => ∃ j : Nat, j ≤ l.length ∧ i = .int .i64 j ∧ Hid (∃ s S sc D dc p bad, RefInv w wr (some ad) c ok xs (x : Int) R O j s S sc D dc p bad)) (fun i _ => l.length - (intOf i).toNat)
  case atStart => exact ⟨0, by omega, rfl, hI⟩
  case round =>
    obtain ⟨j, hj, rfl, hinv⟩ := hrel
    obtain ⟨s, S, sc, D, dc, p, bad, hi⟩ := hinv.out
    have HI := Lib.hid hi
    have hsz' := hi.size
    clear hinv hi hI
    by_cases hlt : j < l.length
    · have hgj : l[j]? = some l[j] := List.getElem?_eq_getElem hlt
      have hf10 := HLT.out _ (List.getElem_mem hlt)
      have hS := HSG.out j (by omega) hlt
      generalize l[j] = f at *
      have HL := Lib.hid (let_ne hf10)
      rw [← hS] at HL
      rw [HLF.out] at hgj
      have HGJ := Lib.hid hgj
      have hj1 : (j : Int) < (SS.size : Int) := by omega
      have hj0 : (0 : Int) ≤ (j : Int) := by omega
      have hj2 : j < SS.size := by omega
      clear hgj
      by_cases h9 : f = 9
      · subst h9
        have hd1 : ((SS[j].toNat : Int) == 68) = true := by rw [hS]; rfl
        have HU := Lib.hid (ub_any s HI.out.rdr (fun hb => (HI.out.yes hb).1))
        clear hS HL
        go_wp2_with fail
        refine HU.out.mono ?_
        rintro e w6 ⟨D', m, dc', dt', p', bad', rfl, ho6, hm, hR6, hk6, hy, hn⟩
        have hw6 := hk6.size
        have hrc6 := blk_kp HI.out.rcd hk6 (by omega)
        have hcx := cell_of_row w6 (w.heap.size + 1) 10 _ _ _ hrc6
        have hfx : w6.frozen? ⟨w.heap.size + 1, 10, none⟩ = false := by simp [World.frozen?, hrc6]
        have hset := heap_setCell_same w6 (w.heap.size + 1) 10 _ _ (.slice D' m dc') hrc6
        have hks : Kp (fun g => g = w.heap.size + 1) w6 (w6.setCell ⟨w.heap.size + 1, 10, none⟩ (.slice D' m dc')) := (Kp.refl (fun g => g = w.heap.size + 1) w6).setCell (p := ⟨w.heap.size + 1, 10, none⟩) (fun _ => rfl) _
        have hos6 := own_kp HI.out.os hk6 (fun g hg e => by have := own_ge HI.out.os hg; omega)
        have hod6 := own_kp HI.out.od hk6 (fun g hg e => by have := own_ge HI.out.od hg; omega)
        have ho6b : w6.ownsRow (w.heap.size + 3) 5 1 (.slice D' m dc') m (bys dt') := own_base ho6 (fun g hg => by have := own_ge ho6 hg; omega)
        have hnx : Hid (∃ s S sc D dc p bad, RefInv w (w6.setCell ⟨w.heap.size + 1, 10, none⟩ (.slice D' m dc')) (some ad) c ok xs (x : Int) R O (j + 1) s S sc D dc p bad) :=
          ⟨⟨{ s.a with dn := m }, s.sp, dt', xs.drop p'⟩, S, sc, D', dc', p', bad', HI.out.next HGJ.out ((hk6.mono (fun g _ e => .inr e)).trans (hks.mono (fun g _ e => .inl e)) fun _ _ e => e) (hR6.kp hks (by omega) (fun g hg e => by have := hok g hg; omega)) hset
            (own_kp hos6 hks (fun g hg e => by have := own_ge hos6 hg; omega)) (own_kp ho6b hks (fun g hg e => by have := own_ge ho6b hg; omega)) (⟨HI.out.bn.1, hm⟩) (fun e => ⟨(hy e).1, (hy e).2, rfl, rfl⟩) (fun e => (hn e).imp id .inl) HON.out HOS.out⟩
        clear hrc6 hset hks hos6 hod6 ho6 hR6 hk6 hy hn HI HU
        go_wp2_with fail
        generalize w6.setCell ⟨w.heap.size + 1, 10, none⟩ (.slice D' m dc') = w7 at *
        go_roundw
        case rel => exact ⟨j + 1, by omega, by go_num, hnx⟩
        case measure => simp [intOf]; omega
      · have hd1 := HL.out.1 h9
        by_cases h8 : f = 8
        · subst h8
          have hd2 : ((SS[j].toNat : Int) == 83) = true := by rw [hS]; rfl
          have HU := Lib.hid (us_any s HI.out.rdr (fun hb => (HI.out.yes hb).1) (fun g hg => by have := hok g hg; omega))
          clear hS HL
          go_wp2_with fail
          refine HU.out.mono ?_
          rintro e w6 ⟨S', m, sc', sp', p', bad', rfl, ho6, hm, hR6, hk6, hy, hn⟩
          have hw6 := hk6.size
          have hrc6 := blk_kp HI.out.rcd hk6 (by omega)
          have hcx := cell_of_row w6 (w.heap.size + 1) 9 _ _ _ hrc6
          have hfx : w6.frozen? ⟨w.heap.size + 1, 9, none⟩ = false := by simp [World.frozen?, hrc6]
          have hset := heap_setCell_same w6 (w.heap.size + 1) 9 _ _ (.slice S' m sc') hrc6
          have hks : Kp (fun g => g = w.heap.size + 1) w6 (w6.setCell ⟨w.heap.size + 1, 9, none⟩ (.slice S' m sc')) := (Kp.refl (fun g => g = w.heap.size + 1) w6).setCell (p := ⟨w.heap.size + 1, 9, none⟩) (fun _ => rfl) _
          have hos6 := own_kp HI.out.os hk6 (fun g hg e => by have := own_ge HI.out.os hg; omega)
          have hod6 := own_kp HI.out.od hk6 (fun g hg e => by have := own_ge HI.out.od hg; omega)
          have ho6b : w6.ownsRow (w.heap.size + 3) 56 2 (.slice S' m sc') m (sps sp') := own_base ho6 (fun g hg => by have := own_ge ho6 hg; omega)
          have hnx : Hid (∃ s S sc D dc p bad, RefInv w (w6.setCell ⟨w.heap.size + 1, 9, none⟩ (.slice S' m sc')) (some ad) c ok xs (x : Int) R O (j + 1) s S sc D dc p bad) :=
            ⟨⟨{ s.a with sn := m }, sp', s.dt, xs.drop p'⟩, S', sc', D, dc, p', bad', HI.out.next HGJ.out ((hk6.mono (fun g _ e => .inr e)).trans (hks.mono (fun g _ e => .inl e)) fun _ _ e => e) (hR6.kp hks (by omega) (fun g hg e => by have := hok g hg; omega)) hset
              (own_kp ho6b hks (fun g hg e => by have := own_ge ho6b hg; omega)) (own_kp hod6 hks (fun g hg e => by have := own_ge hod6 hg; omega)) (⟨hm, HI.out.bn.2⟩) (fun e => ⟨(hy e).1, (hy e).2, rfl, rfl⟩) (fun e => (hn e).imp id (fun h => h.imp id (fun h => ⟨rfl, h⟩))) HON.out HOS.out⟩
          clear hrc6 hset hks hos6 hod6 ho6 hR6 hk6 hy hn HI HU
          go_wp2_with fail
          generalize w6.setCell ⟨w.heap.size + 1, 9, none⟩ (.slice S' m sc') = w7 at *
          go_roundw
          case rel => exact ⟨j + 1, by omega, by go_num, hnx⟩
          case measure => simp [intOf]; omega
        · have hd2 := HL.out.2 h8
          have hf8 : f < 8 := by omega
          have HU := Lib.hid (un_any s f hf8 HI.out.rdr (fun hb => (HI.out.yes hb).1))
          have HW : Hid (∀ (W : World) (m : Int), Calls Tryd.prog 73 #[.agg (s.a.at_ S sc D dc).cells, .int .u8 (SS[j].toNat : Int), .int .i64 m] W fun e w' => e = .returned ((s.a.setN f m).at_ S sc D dc).val ∧ Nw W w') := fun W m => by
            rw [hS, ← setN_at]
            exact refwith_any (s.a.at_ S sc D dc) f hf8 m W
          clear HL hS
          go_wp2_with fail
          refine HU.out.mono ?_
          rintro e w6 ⟨m, p', bad', rfl, hR6, hk6, hy, hn⟩
          have hw6 := hk6.size
          have hrc6 := blk_kp HI.out.rcd hk6 (by omega)
          have hos6 := own_kp HI.out.os hk6 (fun g hg e => by have := own_ge HI.out.os hg; omega)
          have hod6 := own_kp HI.out.od hk6 (fun g hg e => by have := own_ge HI.out.od hg; omega)
          go_upto_region 13 with (fail)
          refine wp_region_still_tail 5 (by kernel_rfl) (by kernel_rfl) ?_
          simp only [List.take_succ_cons, List.take_zero, List.drop_succ_cons, List.drop_zero]
          refine wpStill_step (fun K hK => ?_)
          rw [if_pos (by rfl)]
          refine still_load_row 36 _ rfl (w.heap.size + 1) rfl _ _ _ _ hrc6 Tryd.underlying36 rfl (by kernel_rfl) (hK _ ?_)
          clear hK K
          repeat still_step
          refine wpStill_nil ?_
          change wpList _ _ _ _ _ w6.drew
          have hkd : Kp (fun g => g = w.heap.size + 1 + 1) wr w6.drew := hk6.drew
          have hR6' : Rdr w6.drew (w.heap.size + 1 + 1) (some ad) c ok xs p' bad' := hR6.drewN 1
          have hrc6' : w6.drew.heap[w.heap.size + 1]? = some (.cells (s.a.at_ S sc D dc).cells 36 (0, 0)) := hrc6
          have hos6' := own_nw hos6 ((Kp.refl (fun _ => False) w6).drew)
          have hod6' := own_nw hod6 ((Kp.refl (fun _ => False) w6).drew)
          have hw6' : wr.heap.size ≤ w6.drew.heap.size := hw6
          clear hk6 hR6 hrc6 hos6 hod6 hw6
          generalize w6.drew = w7 at *
          go_wp2_with fail
          refine (HW.out w7 (m : Int)).mono ?_
          rintro e w8 ⟨rfl, hnw8⟩
          have hrc8 := blk_nw hrc6' hnw8
          have haz : Hid (((s.a.setN f m).at_ S sc D dc).cells.all (·.oneCell') = true) := by show _ = _; exact cells_one _
          have hiz : Hid ((Tryd.prog.info? 36).map (·.size) = some ((s.a.setN f m).at_ S sc D dc).cells.size) := by show _ = _; kernel_rfl
          have hnx : Hid (∃ s2 S2 sc2 D2 dc2 p2 bad2, RefInv w (w8.setRow (w.heap.size + 1) ((s.a.setN f m).at_ S sc D dc).cells) (some ad) c ok xs (x : Int) R O (j + 1) s2 S2 sc2 D2 dc2 p2 bad2) := by
            obtain ⟨hr9, hk9⟩ := row_set (cs := ((s.a.setN f m).at_ S sc D dc).cells) hrc8
            have hk79 : Kp (fun g => g = w.heap.size + 1) w7 (w8.setRow (w.heap.size + 1) ((s.a.setN f m).at_ S sc D dc).cells) := Kp.kp0 hnw8 hk9
            have hsn := setN_sn s.a f m
            refine ⟨⟨s.a.setN f m, s.sp, s.dt, xs.drop p'⟩, S, sc, D, dc, p', bad', HI.out.next HGJ.out ((hkd.mono (fun g _ e => .inr e)).trans (hk79.mono (fun g _ e => .inl e)) fun _ _ e => e) (hR6'.kp hk79 (by omega) (fun g hg e => by have := hok g hg; omega)) hr9 ?_ ?_ ?_ (fun e => ⟨(hy e).1, (hy e).2, rfl, setN_k _ _ _⟩) (fun e => (hn e).imp id .inl) HON.out HOS.out⟩
            · simp only [hsn.1]
              exact own_kp hos6' hk79 (fun g hg e => by have := own_ge hos6' hg; omega)
            · simp only [hsn.2]
              exact own_kp hod6' hk79 (fun g hg e => by have := own_ge hod6' hg; omega)
            · simp only [hsn.1, hsn.2]
              exact HI.out.bn
          unfold Rc.val
          go_wp2_with ((with_reducible refine stAt 36 (.tmp 4) (.tmp 45) ?_); go_loud (refine wpList_store_row rfl 36 (.tmp 4) (.tmp 45) rfl (w.heap.size + 1) _ rfl rfl 36 _ hrc8 hiz.out rfl haz.out ?_))
          exact ⟨⟨j + 1, by omega, by go_num, hnx⟩, by simp [intOf]; omega⟩
    · have hjl : j = l.length := by omega
      subst hjl
      have hi := HI.out
      obtain ⟨hcl, hca, hcbd, hfz⟩ := hi.rdr.cell
      have hrow := hi.rcd
      have hres := hi.res
      have hRI := refright_any (s.a.at_ S sc D dc) _ s.sp wr (own_slice hi.os) (by have := hi.bn.1; show s.a.sn ≤ _; omega) (by have := hi.bn.2; show s.a.dn ≤ _; omega)
      have HRI := Lib.hid hRI
      have h1 : ¬ ((l.length : Nat) : Int) < (SS.size : Int) := by omega
      clear hi hRI hfz
      go_wp2_with ((with_reducible refine opAt 56 ?_); go_loud (refine wpList_load_row rfl 36 _ rfl (w.heap.size + 1) rfl _ _ _ _ hrow Tryd.underlying36 rfl (by kernel_rfl) ?_))
      refine HRI.out.mono ?_
      rintro e w7 ⟨rfl, hnw7⟩
      have hres7 := blk_nw hres hnw7
      have hrow7 := blk_nw hrow hnw7
      obtain ⟨hcl7, hca7, hcb7, hfz7⟩ := (HI.out.rdr.nw hnw7).cell
      have hz1 : Hid (zeroC.all (·.oneCell') = true) := by show _ = _; kernel_rfl
      have hz2 : Hid ((Tryd.prog.info? 36).map (·.size) = some zeroC.size) := by show _ = _; kernel_rfl
      clear hcl hca hcbd hfz7 HRI hres hrow
      have hpl := HI.out.rdr.hk
      have hend : Hid (∀ w8, Kp (fun g => g = w.heap.size) w7 w8 → Nw w w8) := fun w8 hk8 => (HI.out.nw.nw hnw7).trans hk8 fun i hi e => by omega
      by_cases hgood : bad = false ∧ p = n ∧ okR s.a s.sp = true
      · obtain ⟨rfl, rfl, hok1⟩ := hgood
        have hO : O = (s, 0) := by
          have hy := HI.out.yes rfl
          have hRs : R = some s := by
            have e := hy.2.1
            rw [← HLF.out, List.drop_of_length_le (Nat.le_refl _)] at e
            exact e.symm
          rw [HOS.out s hRs, if_pos ⟨by rw [hy.1]; exact List.drop_of_length_le (by omega), hok1⟩]
        have hok2 : okR (s.a.at_ S sc D dc) s.sp = true := hok1
        have hpn : ¬ (p : Int) < (p : Int) := by omega
        have hpn2 : decide (p < p) = false := by simp
        rw [hok2]
        unfold errR
        have haz : Hid ((s.a.at_ S sc D dc).cells.all (·.oneCell') = true) := by show _ = _; exact cells_one _
        have hiz : Hid ((Tryd.prog.info? 36).map (·.size) = some (s.a.at_ S sc D dc).cells.size) := by show _ = _; kernel_rfl
        have hoz : Hid (zeroC.size = (s.a.at_ S sc D dc).cells.size) := rfl
        clear hok1 hok2
        subst hO
        go_wp2_with (first | ((with_reducible refine opAt 76 ?_); go_loud (refine wpList_load_row rfl 36 _ rfl (w.heap.size + 1) rfl _ _ _ _ hrow7 Tryd.underlying36 rfl (by kernel_rfl) ?_)) | ((with_reducible refine stAt 36 (.tmp 2) (.tmp 76) ?_); go_loud (refine wpList_store_row rfl 36 (.tmp 2) (.tmp 76) rfl w.heap.size (s.a.at_ S sc D dc).cells rfl rfl 36 zeroC hres7 hiz.out hoz.out haz.out ?_; obtain ⟨hr8, hk8⟩ := row_set (cs := (s.a.at_ S sc D dc).cells) hres7; generalize World.setRow w7 w.heap.size (s.a.at_ S sc D dc).cells = w8 at *)))
        refine ⟨rfl, _, rref_results _ w.heap.size _ 0 _ (by rfl) rfl rfl hr8, S, sc, D, dc, rfl, ?_, ?_, hend.out _ hk8⟩
        · have ho7 := own_nw HI.out.os hnw7
          have ho8 := own_kp ho7 hk8 (fun g hg e => by have := own_ge ho7 hg; omega)
          exact own_base ho8 (fun g hg => by have := own_ge ho8 hg; omega)
        · have ho7 := own_nw HI.out.od hnw7
          have ho8 := own_kp ho7 hk8 (fun g hg e => by have := own_ge ho7 hg; omega)
          exact own_base ho8 (fun g hg => by have := own_ge ho8 hg; omega)
      · have hO : O = NO := by
          cases hb : bad with
          | true => exact HI.out.no hb
          | false =>
            have hy := HI.out.yes hb
            have hRs : R = some s := by
              have e := hy.2.1
              rw [← HLF.out, List.drop_of_length_le (Nat.le_refl _)] at e
              exact e.symm
            rw [HOS.out s hRs, if_neg]
            rintro ⟨h2, h3⟩
            rw [hy.1] at h2
            have := List.drop_eq_nil_iff.1 h2
            exact hgood ⟨hb, by omega, h3⟩
        subst hO
        cases bad with
        | true =>
          go_wp2_with ((with_reducible refine stAt 36 (.tmp 2) (.tmp 75) ?_); go_loud (refine wpList_store_row rfl 36 (.tmp 2) (.tmp 75) rfl w.heap.size zeroC rfl rfl 36 zeroC hres7 hz2.out rfl hz1.out ?_; obtain ⟨hr8, hk8⟩ := row_set (cs := zeroC) hres7; generalize World.setRow w7 w.heap.size zeroC = w8 at *))
          exact ⟨rfl, _, rref_results _ w.heap.size zeroC 61 _ (by kernel_rfl) rfl rfl hr8, readPost_zero 61 (hend.out _ hk8)⟩
        | false =>
          by_cases hpn : p < n
          · have hp1 : (p : Int) < (n : Int) := by omega
            have hp2 : decide (p < n) = true := by simpa using hpn
            go_wp2_with ((with_reducible refine stAt 36 (.tmp 2) (.tmp 75) ?_); go_loud (refine wpList_store_row rfl 36 (.tmp 2) (.tmp 75) rfl w.heap.size zeroC rfl rfl 36 zeroC hres7 hz2.out rfl hz1.out ?_; obtain ⟨hr8, hk8⟩ := row_set (cs := zeroC) hres7; generalize World.setRow w7 w.heap.size zeroC = w8 at *))
            exact ⟨rfl, _, rref_results _ w.heap.size zeroC 61 _ (by kernel_rfl) rfl rfl hr8, readPost_zero 61 (hend.out _ hk8)⟩
          · have hp1 : ¬ (p : Int) < (n : Int) := by omega
            have hp2 : decide (p < n) = false := by simpa using hpn
            have hok1 : okR (s.a.at_ S sc D dc) s.sp = false := by
              by_cases h : okR s.a s.sp = true
              · exact absurd ⟨rfl, by omega, h⟩ hgood
              · exact Bool.eq_false_iff.2 h
            rw [hok1]
            unfold errR
            clear hok1 hgood
            go_wp2_with ((with_reducible refine stAt 36 (.tmp 2) (.tmp 75) ?_); go_loud (refine wpList_store_row rfl 36 (.tmp 2) (.tmp 75) rfl w.heap.size zeroC rfl rfl 36 zeroC hres7 hz2.out rfl hz1.out ?_; obtain ⟨hr8, hk8⟩ := row_set (cs := zeroC) hres7; generalize World.setRow w7 w.heap.size zeroC = w8 at *))
            exact ⟨rfl, _, rref_results _ w.heap.size zeroC 61 _ (by kernel_rfl) rfl rfl hr8, readPost_zero 61 (hend.out _ hk8)⟩
theorem refread_any (A : Option Addr) (n c : Nat) (ok : Nat → Prop) (xs : List UInt8) (w : World) (hr : Rd w ok 1 A n (bys xs)) (hnc : n ≤ c) (hok : ∀ g, ok g → g < w.heap.size) :
    Calls Tryd.prog 48 #[.slice A n c] w (ReadPost w (rdO xs)) := by
  have hl : xs.length = n := by have := hr.len; rwa [bys_len] at this
  unfold rdO
  by_cases h : xs.length > 131072
  · rw [if_pos h]
    exact refread_long A n c w (by omega)
  · rw [if_neg h]
    cases xs with
    | nil =>
      simp only [List.length_nil] at hl
      subst hl
      exact refread_empty A c w
    | cons b r => exact refread_some A n c ok b r w hr hnc (by omega) hok

end Go.Proofs.YtjgnapjhlhdgfaaDoor
