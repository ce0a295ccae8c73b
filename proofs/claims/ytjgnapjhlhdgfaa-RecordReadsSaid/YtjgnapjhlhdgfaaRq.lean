/- Records: the law RecordPrints. -/
import Derived.Test.YtjgnapjhlhdgfaaRp
import Derived.Laws.Rows
set_option linter.unusedVariables false
set_option linter.unusedSimpArgs false
namespace Go.Proofs.Ytjgnapjhlhdgfaa
open Go.RowKit

theorem okR_at (a : Rc) (S : Option Addr) (sc : Nat) (D : Option Addr) (dc : Nat) (sp : List (Int × Int)) : okR (a.at_ S sc D dc) sp = okR a sp := rfl
theorem prO_at (a : Rc) (S : Option Addr) (sc : Nat) (D : Option Addr) (dc : Nat) (sp : List (Int × Int)) (dt : List UInt8) : prO (a.at_ S sc D dc) sp dt = prO a sp dt := rfl
theorem blk_kp {w w' : World} {S : Nat → Prop} {b : Nat} {o : Obj} (h : w.heap[b]? = some o) (k : Kp S w w') (hn : ¬ S b) : w'.heap[b]? = some o :=
  (k.block b (Array.getElem?_eq_some_iff.1 h).1 hn).trans h
theorem blk_nw {w w' : World} {b : Nat} {o : Obj} (h : w.heap[b]? = some o) (k : Nw w w') : w'.heap[b]? = some o := blk_kp h k fun e => e
theorem cutB {w : World} {base e g n : Nat} {l : List UInt8} (hn : l.length = n) (h : w.ownsRow base e 1 (.slice (some ⟨g, 0, none⟩) (n + 2) (n + 2)) (n + 2) (bys (l ++ [177, 178]))) : w.ownsRow base e 1 (.slice (some ⟨g, 0, none⟩) n (n + 2)) n (bys l) := by
  have := own_take h (k := n) (by omega) (by simp)
  rwa [bys_app, List.take_left' (by rw [bys_len, hn, Nat.mul_one])] at this
theorem cutS {w : World} {base e g n : Nat} {l : List (Int × Int)} (hn : l.length = n) (h : w.ownsRow base e 2 (.slice (some ⟨g, 0, none⟩) (n + 2) (n + 2)) (n + 2) (sps (l ++ [(-77, 0), (-78, 0)]))) : w.ownsRow base e 2 (.slice (some ⟨g, 0, none⟩) n (n + 2)) n (sps l) := by
  have := own_take h (k := n) (by omega) (by simp)
  rwa [sps_app, List.take_left' (by rw [sps_len, hn])] at this
theorem prO_len {a : Rc} {sp : List (Int × Int)} {dt : List UInt8} (hs : sp.length = a.sn) (hd : dt.length = a.dn) : (prO a sp dt).length ≤ 490001 := by
  unfold prO
  split
  · exact prR_len (okR_f ‹_›) hs hd
  · simp

set_option maxRecDepth 100000 in
set_option maxHeartbeats 12800000 in
theorem law_RecordPrints (a : Rc) (sp : List (Int × Int)) (dt : List UInt8) (w : World) (hr : Rd w (fun _ => True) 2 a.S a.sn (sps sp)) (hrd : Rd w (fun _ => True) 1 a.D a.dn (bys dt))
    (hsc : a.sn ≤ a.sc) (hdc : a.dn ≤ a.dc) (hb0 : a.sc * 16 ≤ 140737488351232) (hb1 : a.dc * 1 ≤ 140737488351232) :
    Calls Try.prog 3 #[a.val] w fun e w' => e = .returned (.bool true) ∧ Nw w w' := by
  have hsl : sp.length = a.sn := by have := hr.1; rw [sps_len] at this; omega
  have hdl : dt.length = a.dn := by have := hrd.len; rwa [bys_len] at this
  have hn : a.sn ≤ 8796093022000 := by omega
  have hd : a.dn ≤ 140737488351232 := by omega
  have HSL := Lib.hid hsl
  have HDL := Lib.hid hdl
  have HR := Lib.hid hr
  have HD := Lib.hid hrd
  have hpl := prO_len hsl hdl
  clear hsl hdl hr hrd hsc hdc hb0 hb1
  have eb := Try.elU8
  show Calls Try.prog 3 #[.agg a.cells] w _
  have hbk1 : (w.alloc (.cells a.cells 27)).heap[w.heap.size]? = some (.cells a.cells 27 (0, 0)) := heap_alloc_new _ _
  have HBK1 := Lib.hid hbk1
  have hn1 : Nw w (w.alloc (.cells a.cells 27)) := (Kp.refl _ _).alloc _
  clear hbk1
  go_enter Try.func3, Try.ntmps3
  go_wp2_with fail
  refine (awake_any _).mono ?_
  rintro e w2 ⟨rfl, hnw2⟩
  have hb2 := Lib.hid (blk_nw HBK1.out hnw2)
  have hn2 := hn1.nw hnw2
  go_wp2_with (with_reducible refine opAt 27 ?_; refine wpList_load_row rfl 27 _ rfl w.heap.size rfl _ _ _ _ hb2.out Try.underlying27 rfl (by kernel_rfl) ?_)
  refine (refprint_any a _ _ sp dt w2 (HR.out.nw hn2) (HD.out.nw hn2) (by omega) (by omega)).mono ?_
  rintro e w3 ⟨v4, rfl, ho4, hnw3⟩
  have hn3 := hn2.nw hnw3
  have hb3 := Lib.hid (blk_nw hb2.out hnw3)
  go_wp2_with (with_reducible refine opAt 31 ?_; refine wpList_load_row rfl 27 _ rfl w.heap.size rfl _ _ _ _ hb3.out Try.underlying27 rfl (by kernel_rfl) ?_)
  refine (refright_any a _ sp w3 (HR.out.nw hn3) (by omega) (by omega)).mono ?_
  rintro e w4 ⟨rfl, hnw4⟩
  have hn4 := hn3.nw hnw4
  have hb4 := Lib.hid (blk_nw hb3.out hnw4)
  go_wp2_with (with_reducible refine opAt 33 ?_; refine wpList_load_row rfl 27 _ rfl w.heap.size rfl _ _ _ _ hb4.out Try.underlying27 rfl (by kernel_rfl) ?_)
  refine (lent_any a _ _ sp dt w4 (HR.out.nw hn4) (HD.out.nw hn4) hn hd).mono ?_
  rintro e w5 ⟨gS, gD, rfl, hD5, hS5, hnw5⟩
  have hn5 := hn4.nw hnw5
  have hcS := cutS HSL.out hS5
  have hcD := cutB HDL.out hD5
  have hnum : (a.at_ (some ⟨gS, 0, none⟩) (a.sn + 2) (some ⟨gD, 0, none⟩) (a.dn + 2)).val = .agg #[.int .i64 a.k, .int .i64 a.o, .int .i64 a.n, .int .i64 a.p, .int .i64 a.v, .int .i64 a.f, .int .i64 a.r, .int .i64 a.z, .int .i64 a.h, .slice (some ⟨gS, 0, none⟩) a.sn (a.sn + 2), .slice (some ⟨gD, 0, none⟩) a.dn (a.dn + 2)] := rfl
  rw [hnum]
  have HV := Lib.hid hnum
  clear hnum
  have HcS := Lib.hid hcS
  have HcD := Lib.hid hcD
  have HD5 := Lib.hid hD5
  have HS5 := Lib.hid hS5
  clear hcS hcD hD5 hS5
  go_wp2_with fail
  have hbk2 : (w5.alloc (.cells #[.int .i64 a.k, .int .i64 a.o, .int .i64 a.n, .int .i64 a.p, .int .i64 a.v, .int .i64 a.f, .int .i64 a.r, .int .i64 a.z, .int .i64 a.h, .slice (some ⟨gS, 0, none⟩) a.sn (a.sn + 2), .slice (some ⟨gD, 0, none⟩) a.dn (a.dn + 2)] 27)).heap[w5.heap.size]? = some (.cells #[.int .i64 a.k, .int .i64 a.o, .int .i64 a.n, .int .i64 a.p, .int .i64 a.v, .int .i64 a.f, .int .i64 a.r, .int .i64 a.z, .int .i64 a.h, .slice (some ⟨gS, 0, none⟩) a.sn (a.sn + 2), .slice (some ⟨gD, 0, none⟩) a.dn (a.dn + 2)] 27 (0, 0)) := heap_alloc_new _ _
  have hn56 : Nw w5 (w5.alloc (.cells #[.int .i64 a.k, .int .i64 a.o, .int .i64 a.n, .int .i64 a.p, .int .i64 a.v, .int .i64 a.f, .int .i64 a.r, .int .i64 a.z, .int .i64 a.h, .slice (some ⟨gS, 0, none⟩) a.sn (a.sn + 2), .slice (some ⟨gD, 0, none⟩) a.dn (a.dn + 2)] 27)) := (Kp.refl _ _).alloc _
  have hz6 : (w5.alloc (.cells #[.int .i64 a.k, .int .i64 a.o, .int .i64 a.n, .int .i64 a.p, .int .i64 a.v, .int .i64 a.f, .int .i64 a.r, .int .i64 a.z, .int .i64 a.h, .slice (some ⟨gS, 0, none⟩) a.sn (a.sn + 2), .slice (some ⟨gD, 0, none⟩) a.dn (a.dn + 2)] 27)).heap.size = w5.heap.size + 1 := by simp
  generalize w5.alloc (.cells #[.int .i64 a.k, .int .i64 a.o, .int .i64 a.n, .int .i64 a.p, .int .i64 a.v, .int .i64 a.f, .int .i64 a.r, .int .i64 a.z, .int .i64 a.h, .slice (some ⟨gS, 0, none⟩) a.sn (a.sn + 2), .slice (some ⟨gD, 0, none⟩) a.dn (a.dn + 2)] 27) = w6 at *
  have hCv : (a.at_ (some ⟨gS, 0, none⟩) (a.sn + 2) (some ⟨gD, 0, none⟩) (a.dn + 2)).cells = #[.int .i64 a.k, .int .i64 a.o, .int .i64 a.n, .int .i64 a.p, .int .i64 a.v, .int .i64 a.f, .int .i64 a.r, .int .i64 a.z, .int .i64 a.h, .slice (some ⟨gS, 0, none⟩) a.sn (a.sn + 2), .slice (some ⟨gD, 0, none⟩) a.dn (a.dn + 2)] := rfl
  generalize (#[.int .i64 a.k, .int .i64 a.o, .int .i64 a.n, .int .i64 a.p, .int .i64 a.v, .int .i64 a.f, .int .i64 a.r, .int .i64 a.z, .int .i64 a.h, .slice (some ⟨gS, 0, none⟩) a.sn (a.sn + 2), .slice (some ⟨gD, 0, none⟩) a.dn (a.dn + 2)] : Array Value) = C at *
  have HBK2 := Lib.hid hbk2
  have HCV := Lib.hid hCv
  have hn6 := hn5.nw hn56
  clear hbk2 hCv
  have hRS : Hid (∀ W, Nw w5 W → Rd W (fun k => (Value.slice (some ⟨gS, 0, none⟩) a.sn (a.sn + 2)).ownBlock = some k) 2 (some ⟨gS, 0, none⟩) a.sn (sps sp)) := fun W h => own_slice (own_nw HcS.out h)
  have hRD : Hid (∀ W, Nw w5 W → Rd W (fun k => (Value.slice (some ⟨gD, 0, none⟩) a.dn (a.dn + 2)).ownBlock = some k) 1 (some ⟨gD, 0, none⟩) a.dn (bys dt)) := fun W h => own_slice (own_nw HcD.out h)
  have hRR : Hid (∀ W, Nw w5 W → Calls Try.prog 10 #[.agg C] W fun e w' => e = .returned (errR (okR a sp)) ∧ Nw W w') := fun W h => by
    rw [← HCV.out]
    exact rright_any (a.at_ (some ⟨gS, 0, none⟩) (a.sn + 2) (some ⟨gD, 0, none⟩) (a.dn + 2)) _ sp W (hRS.out W h) (by show a.sn ≤ _; omega) (by show a.dn ≤ _; omega)
  have hRP : Hid (∀ W, Nw w5 W → Calls Try.prog 11 #[.agg C] W fun e w' => ∃ v, e = .returned (.tuple #[v, errR (okR a sp)]) ∧ w'.ownsRow W.heap.size 5 1 v (prO a sp dt).length (bys (prO a sp dt)) ∧ Nw W w') := fun W h => by
    rw [← HCV.out]
    exact rprint_any (a.at_ (some ⟨gS, 0, none⟩) (a.sn + 2) (some ⟨gD, 0, none⟩) (a.dn + 2)) _ _ sp dt W (hRS.out W h) (hRD.out W h) (by show a.sn ≤ _; omega) (by show a.dn ≤ _; omega)
  have hSM : Hid (∀ W, Nw w5 W → Calls Try.prog 13 #[.agg C, .agg a.cells] W fun e w' => e = .returned (.bool true) ∧ Nw W w') := fun W h => by
    rw [← HCV.out]
    exact same_any (a.at_ (some ⟨gS, 0, none⟩) (a.sn + 2) (some ⟨gD, 0, none⟩) (a.dn + 2)) a.S a.sc a.D a.dc _ _ _ _ sp dt W (hRS.out W h) (hRD.out W h) (HR.out.nw (hn5.nw h)) (HD.out.nw (hn5.nw h)) (by show a.sn ≤ _; omega) (by show a.dn ≤ _; omega)
  have hKE : Hid (∀ W, Nw w5 W → Calls Try.prog 14 #[.agg C] W fun e w' => e = .returned (.bool true) ∧ Nw W w') := fun W h => by
    rw [← HCV.out]
    exact kept_any a gS gD _ _ sp dt W (own_nw HD5.out h) (own_nw HS5.out h) hn hd
  have hee : ∀ b : Bool, ∃ n : Int, errR b = .int .i64 n := fun b => ⟨_, rfl⟩
  obtain ⟨ee, he⟩ := hee (okR a sp)
  rw [he] at hRR hRP ⊢
  have hne : (ee != ee) = false := by simp
  clear hee he
  generalize prO a sp dt = L at *
  refine (hRR.out w6 hn56).mono ?_
  rintro e w7 ⟨rfl, hnw7⟩
  have hn57 := hn56.nw hnw7
  have hb7 := Lib.hid (blk_nw HBK2.out hnw7)
  go_wp2_with (with_reducible refine opAt 38 ?_; refine wpList_load_row rfl 27 _ rfl w5.heap.size rfl _ _ _ _ hb7.out Try.underlying27 rfl (by kernel_rfl) ?_)
  refine (hRP.out w7 hn57).mono ?_
  rintro e w8 ⟨v9, rfl, ho9, hnw8⟩
  have hn58 := hn57.nw hnw8
  have hb8 := Lib.hid (blk_nw hb7.out hnw8)
  go_wp2_with (with_reducible refine opAt 43 ?_; refine wpList_load_row rfl 27 _ rfl w5.heap.size rfl _ _ _ _ hb8.out Try.underlying27 rfl (by kernel_rfl) ?_)
  refine (hRP.out w8 hn58).mono ?_
  rintro e w9 ⟨v11, rfl, ho11, hnw9⟩
  obtain ⟨A4, c4, rfl, _, hr4⟩ := own_read ho4
  obtain ⟨A9, c9, rfl, hc9, hr9⟩ := own_read ho9
  obtain ⟨A11, c11, rfl, _, hr11⟩ := own_read ho11
  have hn39 : Nw w3 w9 := (((hnw4.nw hnw5).nw hn58)).nw hnw9
  go_wp2_with fail
  refine (sameb_any _ _ _ _ _ _ _ L w9 (hr9.nw hnw9) (hr4.nw hn39) (by omega)).mono ?_
  rintro e w10 ⟨rfl, hnw10⟩
  go_wp2_with fail
  refine (sameb_any _ _ _ _ _ _ _ L w10 (hr11.nw hnw10) (hr4.nw (hn39.nw hnw10)) (by omega)).mono ?_
  rintro e w11 ⟨rfl, hnw11⟩
  have hn911 := hnw10.nw hnw11
  have hn511 := (hn58.nw hnw9).nw hn911
  have hb11 := Lib.hid (blk_nw hb8.out (hnw9.nw hn911))
  have hb11r := Lib.hid (blk_nw hb4.out (hnw5.nw hn511))
  go_wp2_with (first | (with_reducible refine opAt 53 ?_; refine wpList_load_row rfl 27 _ rfl w5.heap.size rfl _ _ _ _ hb11.out Try.underlying27 rfl (by kernel_rfl) ?_) | (with_reducible refine opAt 54 ?_; refine wpList_load_row rfl 27 _ rfl w.heap.size rfl _ _ _ _ hb11r.out Try.underlying27 rfl (by kernel_rfl) ?_))
  refine (hSM.out w11 hn511).mono ?_
  rintro e w12 ⟨rfl, hnw12⟩
  have hn512 := hn511.nw hnw12
  have hb12 := Lib.hid (blk_nw hb11.out hnw12)
  go_wp2_with (with_reducible refine opAt 56 ?_; refine wpList_load_row rfl 27 _ rfl w5.heap.size rfl _ _ _ _ hb12.out Try.underlying27 rfl (by kernel_rfl) ?_)
  refine (hKE.out w12 hn512).mono ?_
  rintro e w13 ⟨rfl, hnw13⟩
  have hn513 := hn512.nw hnw13
  have hb13 := Lib.hid (blk_nw hb12.out hnw13)
  go_wp2_with (with_reducible refine opAt 91 ?_; refine wpList_load_row rfl 27 _ rfl w5.heap.size rfl _ _ _ _ hb13.out Try.underlying27 rfl (by kernel_rfl) ?_)
  have hgD : gD < w5.heap.size := own_lt HD5.out rfl
  have hgS : gS < w5.heap.size := own_lt HS5.out rfl
  have hgD4 : w4.heap.size ≤ gD := own_ge HD5.out rfl
  have hgS4 : w4.heap.size ≤ gS := own_ge HS5.out rfl
  have hSP : Hid (Calls Try.prog 15 #[.agg C, .int .i64 7] w13 fun e w' => e = .returned (.tuple #[]) ∧
      w'.ownsRow w4.heap.size 5 1 (.slice (some ⟨gD, 0, none⟩) a.dn (a.dn + 2)) a.dn (bys (List.replicate a.dn 7)) ∧
      w'.ownsRow w4.heap.size 47 2 (.slice (some ⟨gS, 0, none⟩) a.sn (a.sn + 2)) a.sn (sps (List.replicate a.sn (-8, 0))) ∧ Kp (fun g => g = gD ∨ g = gS) w13 w') := by
    rw [← HCV.out]
    refine (spoil_any (a.at_ (some ⟨gS, 0, none⟩) (a.sn + 2) (some ⟨gD, 0, none⟩) (a.dn + 2)) 7 _ _ sp dt w13 (own_nw HcD.out hn513) (own_nw HcS.out hn513) (by show a.sn ≤ _; omega) (by show a.dn ≤ _; omega) (by omega) (by omega)).mono ?_
    rintro e w' ⟨h1, h2, h3, h4⟩
    exact ⟨h1, h2, h3, h4.mono fun k _ hk => by rcases hk with hk | hk <;> simp [Value.ownBlock, Rc.at_] at hk <;> omega⟩
  refine hSP.out.mono ?_
  rintro e w14 ⟨rfl, hD14, hS14, hk14⟩
  have hsz : w2.heap.size ≤ w3.heap.size ∧ w3.heap.size ≤ w4.heap.size ∧ w5.heap.size < w7.heap.size ∧ w7.heap.size ≤ w8.heap.size := ⟨hnw3.size, hnw4.size, by have := hnw7.size; omega, hnw8.size⟩
  have hn813 : Nw w8 w13 := ((hnw9.nw hn911).nw hnw12).nw hnw13
  have hn913 : Nw w9 w13 := (hn911.nw hnw12).nw hnw13
  have ho4' := own_kp (own_nw (own_nw ho4 hn39) hn913) hk14 (fun g hg e => by have := own_lt ho4 hg; omega)
  have ho9' := own_kp (own_nw ho9 hn813) hk14 (fun g hg e => by have := own_ge ho9 hg; omega)
  have ho11' := own_kp (own_nw ho11 hn913) hk14 (fun g hg e => by have := own_ge ho11 hg; omega)
  have hb14 := Lib.hid (blk_kp hb13.out hk14 (by omega))
  have hn14 : Nw w w14 := (hn5.nw hn513).trans hk14 fun i hi e => by have := hn4.size; omega
  have HO4 := Lib.hid ho4'
  have HO9 := Lib.hid ho9'
  have HO11 := Lib.hid ho11'
  have HD14 := Lib.hid hD14
  have HS14 := Lib.hid hS14
  have HG9 : Hid (∀ g, (Value.slice A9 L.length c9).ownBlock = some g → w7.heap.size ≤ g ∧ g < w8.heap.size) := fun g hg => ⟨own_ge ho9 hg, own_lt ho9 hg⟩
  have HG4 : Hid (∀ g, (Value.slice A4 L.length c4).ownBlock = some g → g < w3.heap.size) := fun g hg => own_lt ho4 hg
  have HG11 : Hid (∀ g, (Value.slice A11 L.length c11).ownBlock = some g → w8.heap.size ≤ g) := fun g hg => own_ge ho11 hg
  clear ho4' ho9' ho11' hD14 hS14 hr4 hr9 hr11 ho4 ho9 ho11
  go_wp2
  go_loopw [17] (fun i wr => ∃ k : Nat, k ≤ L.length ∧ i = .int .i64 k ∧ wr.ownsRow w7.heap.size 5 1 (.slice A9 L.length c9) L.length (bys (List.replicate k 201 ++ L.drop k)) ∧ Kp (fun g => (Value.slice A9 L.length c9).ownBlock = some g) w14 wr) (fun i _ => L.length - (intOf i).toNat)
  case atStart => exact ⟨0, by omega, rfl, by simpa using HO9.out, Kp.refl _ _⟩
  case round =>
    obtain ⟨k, hk, rfl, how, hkp⟩ := hrel
    by_cases hlt : k < L.length
    · obtain ⟨g, rfl⟩ := own_some how (by omega)
      have hst := how.stored k (bv 201)
      rw [rep_bys k _ _ hlt] at hst
      have hfz := how.frozenAt k
      have hlen := how.1
      rw [Nat.mul_one] at hlen
      have hcl := own_at how (List.getElem?_eq_getElem (l := bys (List.replicate k 201 ++ L.drop k)) (i := k) (by omega))
      generalize (bys (List.replicate k 201 ++ L.drop k))[k]'(by omega) = vv at hcl
      have HST : Hid ((wr.setCell ⟨g, k, none⟩ (.int .u8 201)).ownsRow w7.heap.size 5 1 (.slice (some ⟨g, 0, none⟩) L.length c9) L.length (bys (List.replicate (k + 1) 201 ++ L.drop (k + 1))) ∧ wr.grownBy (wr.setCell ⟨g, k, none⟩ (.int .u8 201)) (some g)) := hst
      clear hst hlen how
      have h1 : (k : Int) < (L.length : Int) := by omega
      have h0 : (0 : Int) ≤ (k : Int) := by omega
      go_wp2
      go_roundw
      case rel => exact ⟨k + 1, by omega, by go_num, HST.out.1, hkp.trans (Kp.of_grown HST.out.2) fun i hi e => by injection e with e; rw [e]; rfl⟩
      case measure => simp [intOf]; omega
    · have hkd : k = L.length := by omega
      subst hkd
      obtain ⟨w15, rfl⟩ : ∃ w15 : World, w15 = wr := ⟨_, rfl⟩
      have h1 : ¬ ((L.length : Nat) : Int) < (L.length : Int) := by omega
      have hlB : (bys (List.replicate L.length 201 ++ L.drop L.length)).length = L.length := by rw [how.1, Nat.mul_one]
      have HOW : Hid (∃ xs : List UInt8, xs.length = L.length ∧ w15.ownsRow w7.heap.size 5 1 (.slice A9 L.length c9) L.length (bys xs)) := ⟨_, by rwa [bys_len] at hlB, how⟩
      clear how hlB
      have hsz15 := hkp.size
      have hsz14 := hk14.size
      have hsz8 : w7.heap.size ≤ w13.heap.size := by have := hn813.size; omega
      go_wp2
      go_loopw [9, 18] (fun x i wr => ∃ (q : Nat) (xs : List UInt8), q ≤ 40 ∧ i = .int .i64 q ∧ xs.length = L.length + q ∧ wr.ownsRow w7.heap.size 5 1 x (L.length + q) (bys xs) ∧ Kp (fun g => (Value.slice A9 L.length c9).ownBlock = some g) w15 wr ∧ OwnAt w15 (.slice A9 L.length c9) x) (fun _ i _ => 40 - (intOf i).toNat)
      case atStart =>
        obtain ⟨xs, h2, h3⟩ := HOW.out
        exact ⟨0, xs, by omega, rfl, h2, h3, Kp.refl _ _, OwnAt.refl _ _⟩
      case round =>
        obtain ⟨q, xs, hq, rfl, hxl, how, hkq, hat⟩ := hrel
        have hsz16 := hkq.size
        by_cases hlt : q < 40
        · have h40 : (q : Int) < 40 := by omega
          go_wp2_with (at_builtin; refine wpList_app1 wr _ _ rfl (.tmp 106) (.tmp 107) 25 5 rfl eb w7.heap.size _ _ _ how rfl 1 1 rfl rfl (by simp [Value.oneCell']) (by simp only [maxLen]; omega) (by omega) (by omega) ?_; intro v17 w17 how17 hkp17 hat17)
          go_roundw
          case rel => exact ⟨q + 1, xs ++ [202], by omega, by go_num, by rw [List.length_append, hxl]; rfl, by rw [bys_app]; exact how17, hat.kp hkq (fun g e => e) hkp17, hat.trans hat17 hkq.size⟩
          case measure => simp [intOf]; omega
        · have hq40 : q = 40 := by omega
          subst hq40
          obtain ⟨w16, rfl⟩ : ∃ w16 : World, w16 = wr := ⟨_, rfl⟩
          obtain ⟨A17, c17, rfl, _, _⟩ := own_read how
          have hk1416 : Kp (fun g => (Value.slice A9 L.length c9).ownBlock = some g) w14 w16 := hkp.trans hkq fun _ _ e => e
          have hr4 := own_slice (own_kp HO4.out hk1416 fun g hg e => by have := HG4.out g hg; have := HG9.out g e; omega)
          have hr11 := own_slice (own_kp HO11.out hk1416 fun g hg e => by have := HG11.out g hg; have := HG9.out g e; omega)
          have hD16 := own_kp HD14.out hk1416 fun g hg e => by have := HG9.out g e; simp [Value.ownBlock] at hg; omega
          have hS16 := own_kp HS14.out hk1416 fun g hg e => by have := HG9.out g e; simp [Value.ownBlock] at hg; omega
          have hb16 := Lib.hid (blk_kp hb14.out hk1416 fun e => by have := HG9.out _ e; omega)
          have hn16 : Nw w w16 := hn14.trans hk1416 fun i hi e => by have := HG9.out _ e; have := hn5.size; omega
          have h40 : ¬ (((40 : Nat) : Int) < 40) := by omega
          go_wp2_with fail
          refine (sameb_any _ _ _ _ _ _ _ L w16 hr11 hr4 (by omega)).mono ?_
          rintro e w17 ⟨rfl, hnw17⟩
          have hb17 := Lib.hid (blk_nw hb16.out hnw17)
          have hD17 := own_nw hD16 hnw17
          have hS17 := own_nw hS16 hnw17
          have HD17 := Lib.hid hD17
          have HS17 := Lib.hid hS17
          clear hD17 hS17 hD16 hS16 hr4 hr11
          have hRP2 : Hid (∀ W, Nw w17 W → Calls Try.prog 7 #[.agg C] W fun e w' => ∃ v, e = .returned (.tuple #[v, errR (okR (a.at_ (some ⟨gS, 0, none⟩) (a.sn + 2) (some ⟨gD, 0, none⟩) (a.dn + 2)) (List.replicate a.sn (-8, 0)))]) ∧ w'.ownsRow W.heap.size 5 1 v (prO (a.at_ (some ⟨gS, 0, none⟩) (a.sn + 2) (some ⟨gD, 0, none⟩) (a.dn + 2)) (List.replicate a.sn (-8, 0)) (List.replicate a.dn 7)).length (bys (prO (a.at_ (some ⟨gS, 0, none⟩) (a.sn + 2) (some ⟨gD, 0, none⟩) (a.dn + 2)) (List.replicate a.sn (-8, 0)) (List.replicate a.dn 7))) ∧ Nw W w') := fun W h => by
            rw [← HCV.out]
            exact refprint_any (a.at_ (some ⟨gS, 0, none⟩) (a.sn + 2) (some ⟨gD, 0, none⟩) (a.dn + 2)) _ _ _ _ W (own_slice (own_nw HS17.out h)) (own_slice (own_nw HD17.out h)) (by show a.sn ≤ _; omega) (by show a.dn ≤ _; omega)
          have hRP3 : Hid (∀ W, Nw w17 W → Calls Try.prog 11 #[.agg C] W fun e w' => ∃ v, e = .returned (.tuple #[v, errR (okR (a.at_ (some ⟨gS, 0, none⟩) (a.sn + 2) (some ⟨gD, 0, none⟩) (a.dn + 2)) (List.replicate a.sn (-8, 0)))]) ∧ w'.ownsRow W.heap.size 5 1 v (prO (a.at_ (some ⟨gS, 0, none⟩) (a.sn + 2) (some ⟨gD, 0, none⟩) (a.dn + 2)) (List.replicate a.sn (-8, 0)) (List.replicate a.dn 7)).length (bys (prO (a.at_ (some ⟨gS, 0, none⟩) (a.sn + 2) (some ⟨gD, 0, none⟩) (a.dn + 2)) (List.replicate a.sn (-8, 0)) (List.replicate a.dn 7))) ∧ Nw W w') := fun W h => by
            rw [← HCV.out]
            exact rprint_any (a.at_ (some ⟨gS, 0, none⟩) (a.sn + 2) (some ⟨gD, 0, none⟩) (a.dn + 2)) _ _ _ _ W (own_slice (own_nw HS17.out h)) (own_slice (own_nw HD17.out h)) (by show a.sn ≤ _; omega) (by show a.dn ≤ _; omega)
          have hpl2 := prO_len (a := a.at_ (some ⟨gS, 0, none⟩) (a.sn + 2) (some ⟨gD, 0, none⟩) (a.dn + 2)) (sp := List.replicate a.sn (-8, 0)) (dt := List.replicate a.dn 7) (by rw [List.length_replicate]; rfl) (by rw [List.length_replicate]; rfl)
          have hee : ∀ b : Bool, ∃ n : Int, errR b = .int .i64 n := fun b => ⟨_, rfl⟩
          obtain ⟨e2, he2⟩ := hee (okR (a.at_ (some ⟨gS, 0, none⟩) (a.sn + 2) (some ⟨gD, 0, none⟩) (a.dn + 2)) (List.replicate a.sn (-8, 0)))
          rw [he2] at hRP2 hRP3
          clear hee he2
          generalize prO (a.at_ (some ⟨gS, 0, none⟩) (a.sn + 2) (some ⟨gD, 0, none⟩) (a.dn + 2)) (List.replicate a.sn (-8, 0)) (List.replicate a.dn 7) = L2 at *
          go_wp2_with (with_reducible refine opAt 113 ?_; refine wpList_load_row rfl 27 _ rfl w5.heap.size rfl _ _ _ _ hb17.out Try.underlying27 rfl (by kernel_rfl) ?_)
          refine (hRP2.out w17 (Kp.refl _ _)).mono ?_
          rintro e w18 ⟨v20, rfl, ho20, hnw18⟩
          have hb18 := Lib.hid (blk_nw hb17.out hnw18)
          go_wp2_with (with_reducible refine opAt 118 ?_; refine wpList_load_row rfl 27 _ rfl w5.heap.size rfl _ _ _ _ hb18.out Try.underlying27 rfl (by kernel_rfl) ?_)
          refine (hRP3.out w18 hnw18).mono ?_
          rintro e w19 ⟨v22, rfl, ho22, hnw19⟩
          obtain ⟨A20, c20, rfl, _, hr20⟩ := own_read ho20
          obtain ⟨A22, c22, rfl, _, hr22⟩ := own_read ho22
          go_wp2_with fail
          refine (sameb_any _ _ _ _ _ _ _ L2 w19 hr22 (hr20.nw hnw19) (by omega)).mono ?_
          rintro e w20 ⟨rfl, hnw20⟩
          clear ho20 ho22 hr20 hr22 hpl2 h40 hq hxl how hat
          have hfin : Hid (∀ N : Nat, N = L.length + 40 → ((N : Int) == (L.length : Int) + 40) = true) := fun N h => by rw [h]; simp
          generalize hN : L.length + 40 = N
          have hfin' := hfin.out N hN.symm
          have hee2 : (e2 == e2) = true := by simp
          clear hN
          go_wp2_with fail
          go_ret
          exact ⟨rfl, (((hn16.nw hnw17).nw hnw18).nw hnw19).nw hnw20⟩

end Go.Proofs.Ytjgnapjhlhdgfaa
