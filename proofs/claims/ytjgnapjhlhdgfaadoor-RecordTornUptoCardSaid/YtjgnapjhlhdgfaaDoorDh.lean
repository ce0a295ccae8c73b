/- Frames: what the law 'scans' needs: plain, and rows of read records. -/
import Derived.Test.YtjgnapjhlhdgfaaDoorDf
import Derived.Test.YtjgnapjhlhdgfaaDoorDg
import Derived.Deep.MidRow
set_option linter.unusedVariables false
set_option linter.unusedSimpArgs false
namespace Go.Proofs.YtjgnapjhlhdgfaaDoor
open Go.RowKit

theorem scF_len : ∀ (f : Nat) (xs : List UInt8), (scF f xs).1.length * 8 ≤ (scF f xs).2 ∧ (scF f xs).2 ≤ xs.length
  | 0, xs => by simp [scF]
  | f + 1, xs => by
    unfold scF
    cases h : sc1 xs with
    | none => simp
    | some q =>
      obtain ⟨s, k⟩ := q
      have h1 := sc1_len h
      have h2 := scF_len f (xs.drop k)
      rw [List.length_drop] at h2
      simp only [List.length_cons]
      omega
theorem sc1_mem {xs : List UInt8} {s : RSt} {k : Nat} (h : sc1 xs = some (s, k)) : ∃ ys, rdR ys = some s := by
  unfold sc1 at h
  split at h
  · cases h
  · split at h
    · cases h
    · split at h
      · cases h
      · split at h
        · cases h
        · rename_i q
          simp only [Option.some.injEq, Prod.mk.injEq] at h
          obtain ⟨rfl, _⟩ := h
          exact ⟨_, q⟩
theorem scF_mem : ∀ (f : Nat) (xs : List UInt8) (s : RSt), s ∈ (scF f xs).1 → ∃ ys, rdR ys = some s
  | 0, xs, s, h => by simp [scF] at h
  | f + 1, xs, s, h => by
    unfold scF at h
    cases hq : sc1 xs with
    | none => rw [hq] at h; simp at h
    | some q =>
      obtain ⟨t, k⟩ := q
      rw [hq] at h
      simp only [List.mem_cons] at h
      rcases h with rfl | h
      · exact sc1_mem hq
      · exact scF_mem f _ s h
theorem scn_len (xs : List UInt8) : (scn xs).1.length * 8 ≤ (scn xs).2 ∧ (scn xs).2 ≤ xs.length := scF_len _ _
def Small (L : List RSt) : Prop := ∀ s ∈ L, s.a.sn ≤ 65536 ∧ s.a.dn ≤ 65536
theorem scn_small (xs : List UInt8) : Small (scn xs).1 := fun s h => by
  obtain ⟨ys, hy⟩ := scF_mem _ _ s h
  exact rdR_bound hy

/-- What a Scan answers, the slice laid open. -/
def ScPostN (w : World) (L : List RSt) (N M : Nat) (e : Ending) (w' : World) : Prop :=
  ∃ (la : List Rc) (A : Option Addr) (c : Nat), e = .returned (.tuple #[.slice A N c, .int .i64 (M : Int)]) ∧ N ≤ c ∧ Rws w.heap.size w'.heap.size w' L la (.slice A N c) ∧ Nw w w'
theorem scpostN {w w' : World} {xs : List UInt8} {e : Ending} (h : ScPost w xs e w') : ScPostN w (scn xs).1 (scn xs).1.length (scn xs).2 e w' := by
  obtain ⟨la, v, he, hR, hn⟩ := h
  obtain ⟨A, c, rfl, hc, _⟩ := own_read hR.row
  rw [hR.len] at hc he hR
  exact ⟨la, A, c, he, hc, hR, hn⟩
theorem Rws.lenN {lo hi : Nat} {W : World} {L : List RSt} {la : List Rc} {A : Option Addr} {N c : Nat} (h : Rws lo hi W L la (.slice A N c)) : la.length = N := by
  obtain ⟨A', c', e, _⟩ := own_read h.row
  injection e with _ e2
  exact e2.symm
theorem Rws.rowN {lo hi : Nat} {W : World} {L : List RSt} {la : List Rc} {A : Option Addr} {N c : Nat} (h : Rws lo hi W L la (.slice A N c)) : W.ownsRow lo 36 11 (.slice A N c) N (rcs la) := by
  have := h.row
  rwa [h.lenN] at this

theorem sameall_rws {lo hi lo' hi' : Nat} {W : World} {L : List RSt} {la lb : List Rc} {A A' : Option Addr} {N c c' : Nat} (h1 : Rws lo hi W L la (.slice A N c)) (h2 : Rws lo' hi' W L lb (.slice A' N c')) (hN : N ≤ 1000000000000) (hb : Small L) :
    Calls Tryd.prog 16 #[.slice A N c, .slice A' N c'] W fun e w' => e = .returned (.bool true) ∧ Nw W w' :=
  sameall_any A A' N c c' _ _ la lb W (own_slice h1.rowN) (own_slice h2.rowN) hN fun i a b ha hb' W' hW => by
    have hi : i < L.length := by rw [← h1.len]; exact (List.getElem?_eq_some_iff.1 ha).1
    have hL : L[i]? = some L[i] := List.getElem?_eq_getElem hi
    obtain ⟨S, sc, D, dc, rfl, g1⟩ := h1.got i _ a hL ha
    obtain ⟨S', sc', D', dc', rfl, g2⟩ := h2.got i _ b hL hb'
    exact same_got (g1.nw hW) (g2.nw hW) (hb _ (List.getElem_mem hi))

theorem Rws.sof {lo hi : Nat} {W : World} {L : List RSt} {la : List Rc} {v : Value} (h : Rws lo hi W L la v) {g : Nat} (hg : Sof (la.map Rc.vD) g ∨ Sof (la.map Rc.vS) g) : (lo ≤ g ∧ g < hi) ∧ v.ownBlock ≠ some g := by
  have key : ∀ a ∈ la, ∃ (s : RSt) (S : Option Addr) (sc : Nat) (D : Option Addr) (dc : Nat), a = s.a.at_ S sc D dc ∧ Got lo hi W s S sc D dc := fun a ha => by
    obtain ⟨i, hi, e⟩ := List.getElem_of_mem ha
    have hil : i < L.length := by rw [← h.len]; exact hi
    obtain ⟨S, sc, D, dc, e2, hgo⟩ := h.got i L[i] la[i] (List.getElem?_eq_getElem hil) (List.getElem?_eq_getElem hi)
    exact ⟨L[i], S, sc, D, dc, by rw [← e]; exact e2, hgo⟩
  rcases hg with ⟨u, hu, hug⟩ | ⟨u, hu, hug⟩
  · obtain ⟨a, ha, rfl⟩ := List.mem_map.1 hu
    obtain ⟨s, S, sc, D, dc, rfl, hgo⟩ := key a ha
    exact ⟨⟨own_ge hgo.od hug, hgo.hd g hug⟩, own_ty hgo.od h.row (by decide) hug⟩
  · obtain ⟨a, ha, rfl⟩ := List.mem_map.1 hu
    obtain ⟨s, S, sc, D, dc, rfl, hgo⟩ := key a ha
    exact ⟨⟨own_ge hgo.os hug, hgo.hs g hug⟩, own_ty hgo.os h.row (by decide) hug⟩

/-- What Owned leaves of a row of read records: its lists alone were written. -/
def OwnPost (lo hi : Nat) (v : Value) (W : World) (e : Ending) (w' : World) : Prop :=
  e = .returned (.bool true) ∧ ∃ X : Nat → Prop, Kp X W w' ∧ ∀ g, X g → (lo ≤ g ∧ g < hi) ∧ v.ownBlock ≠ some g
theorem owned_rws {lo hi : Nat} {W : World} {L : List RSt} {la : List Rc} {A : Option Addr} {N c : Nat} (h : Rws lo hi W L la (.slice A N c)) (hN : N ≤ 100000000) (hb : Small L) :
    Calls Tryd.prog 26 #[.slice A N c] W (OwnPost lo hi (.slice A N c) W) := by
  have key : ∀ a ∈ la, ∃ (s : RSt) (S : Option Addr) (sc : Nat) (D : Option Addr) (dc : Nat), a = s.a.at_ S sc D dc ∧ Got lo hi W s S sc D dc ∧ s ∈ L := fun a ha => by
    obtain ⟨i, hi, e⟩ := List.getElem_of_mem ha
    have hil : i < L.length := by rw [← h.len]; exact hi
    obtain ⟨S, sc, D, dc, e2, hgo⟩ := h.got i L[i] la[i] (List.getElem?_eq_getElem hil) (List.getElem?_eq_getElem hi)
    exact ⟨L[i], S, sc, D, dc, by rw [← e]; exact e2, hgo, List.getElem_mem hil⟩
  refine (rowned_any A N c _ la W (own_slice h.rowN) hN h.sD h.sS (fun a ha => ?_) (fun a ha => ?_) (fun a ha => ?_) (fun g hg hs => (h.sof hs).2 hg)).mono fun e w' hp => ⟨hp.1, _, hp.2, fun g hg => h.sof hg⟩
  · obtain ⟨s, S, sc, D, dc, rfl, hgo, _⟩ := key a ha
    exact ⟨_, own_base hgo.od (fun _ _ => Nat.zero_le _)⟩
  · obtain ⟨s, S, sc, D, dc, rfl, hgo, _⟩ := key a ha
    exact ⟨_, own_base hgo.os (fun _ _ => Nat.zero_le _)⟩
  · obtain ⟨s, S, sc, D, dc, rfl, hgo, hs⟩ := key a ha
    have := hb s hs
    exact ⟨by show s.a.dn ≤ _; omega, by show s.a.sn ≤ _; omega⟩

/-- One cell of a row of one's own is written. -/
theorem own_st {w : World} {base e g n cap : Nat} {xs : List Value} (h : w.ownsRow base e 1 (.slice (some ⟨g, 0, none⟩) n cap) n xs) {k : Nat} (u : Value) (hk : k < n) :
    (∃ v, w.cell? ⟨g, k, none⟩ = some v) ∧ w.frozen? ⟨g, k, none⟩ = false ∧
      Hid ((∃ ys, (w.setCell ⟨g, k, none⟩ u).ownsRow base e 1 (.slice (some ⟨g, 0, none⟩) n cap) n ys) ∧ Kp (fun i => i = g) w (w.setCell ⟨g, k, none⟩ u)) := by
  have hl := h.1
  have hst := h.stored k u
  refine ⟨⟨xs[k]'(by omega), ?_⟩, h.frozenAt _, ⟨_, hst.1⟩, (Kp.of_grown hst.2).mono fun i _ e => by injection e⟩
  rw [h.cellAt k (by omega)]
  exact List.getElem?_eq_getElem (by omega)
/-- So many cells. -/
theorem own_setCells {base e size g n cap : Nat} : ∀ (vs : List Value) (o : Nat) (w : World) (xs : List Value), w.ownsRow base e size (.slice (some ⟨g, 0, none⟩) n cap) n xs →
    (∃ ys, (w.setCells g o vs).ownsRow base e size (.slice (some ⟨g, 0, none⟩) n cap) n ys) ∧ Kp (fun i => i = g) w (w.setCells g o vs)
  | [], o, w, xs, h => ⟨⟨xs, h⟩, Kp.refl _ _⟩
  | v :: r, o, w, xs, h => by
    have hst := h.stored o v
    obtain ⟨h1, h2⟩ := own_setCells r (o + 1) _ _ hst.1
    exact ⟨h1, ((Kp.of_grown hst.2).mono fun i _ e => by injection e).trans h2 fun _ _ e => e⟩
theorem own_there {w : World} {base e size g n cap : Nat} {xs : List Value} (h : w.ownsRow base e size (.slice (some ⟨g, 0, none⟩) n cap) n xs) (o m : Nat) (ho : o + m ≤ n * size) : w.there g o m := fun j hj => by
  have hl := h.1
  refine ⟨?_, h.frozenAt _⟩
  rw [h.cellAt (o + j) (by omega), List.getElem?_eq_getElem (by omega)]
  rfl
theorem mul11 {k n : Nat} (h : k < n) : k * 11 + 11 ≤ n * 11 := by omega
end Go.Proofs.YtjgnapjhlhdgfaaDoor
