/- Regions that draw their order and whose callees make memory, but turn none of what was there: one walk in the order of the text. -/
import Derived.Test.YtjgnapjhlhdgfaaWd
import Derived.Deep.QuietTactic
import Derived.BigQuiet
set_option linter.unusedVariables false
set_option linter.unusedSimpArgs false
namespace Go.Proofs.Ytjgnapjhlhdgfaa
open Go.RowKit

/-- The worlds in which nothing that was there has turned. -/
def NwS (w : World) : Type := { w' : World // Nw w w' }
def NwS.w {w : World} (s : NwS w) : World := s.1
theorem NwS.nw {w : World} (s : NwS w) : Nw w s.w := s.2
instance NwS.inst (w : World) : Nonempty (NwS w) := ⟨⟨w, Kp.refl _ w⟩⟩
theorem NwS.cell {w : World} {p : Addr} {v : Value} (h : w.cell? p = some v) : ∀ s : NwS w, s.w.cell? p = some v := fun s => (Kp.cell s.nw (World.block_lt_of_cell? _ _ h) fun e => e).trans h

theorem wp_region_nw {P : Program} {id : Nat} {Q : Exit → Act → World → Prop} {a : Act} {w : World} {l : List Oper} (hm : P.follows .mixedOrders = true) (hB : Region.lexB .any l.toArray = true)
    (h : wpQuiet P l.toArray (fun w' => ∃ s : NwS w, w' = s.w) (fun a' => ∀ w', Nw w w' → Q .normal a' w') l a) : (Code.region id l.toArray true).wp P Q a w := by
  refine wp_region_quiet (C := fun w' => ∃ s : NwS w, w' = s.w) hm hB ⟨⟨w.drew, (Kp.refl _ w).drew⟩, rfl⟩ ?_
  have e : (fun a' => ∀ w', (∃ s : NwS w, w' = s.w) → Q .normal a' w') = (fun a' => ∀ w', Nw w w' → Q .normal a' w') := by
    funext a'
    apply propext
    exact ⟨fun H w' hw => H w' ⟨⟨w', hw⟩, rfl⟩, fun H w' ⟨s, hs⟩ => by subst hs; exact H _ s.nw⟩
  rw [e]
  exact h

/-- A callee's contract, met in a world of the class. -/
theorem calls_nw {P : Program} {f : FuncId} {args : Array Value} {w : World} {s : NwS w} {v : Value}
    (h : Calls P f args s.w fun e w' => e = .returned v ∧ Nw s.w w') : Calls P f args s.w fun e w'' => e = .returned v ∧ ∃ s' : NwS w, w'' = s'.w :=
  h.mono fun e w'' ⟨he, hn⟩ => ⟨he, ⟨⟨w'', s.nw.nw hn⟩, rfl⟩⟩

end Go.Proofs.Ytjgnapjhlhdgfaa
