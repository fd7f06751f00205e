/- Regions that draw their order, whose operations only read and whose calls may make memory of their own: one walk of the text's order serves every order. The class of worlds: 'all that was there at the start is as it was'. -/
import Derived.Test.YtndnglaohjbapaaLib
import Derived.Deep.QuietTactic
import Derived.BigQuiet
namespace Go.Proofs.Ytndnglaohjbapaa
open Go.RowKit
set_option linter.unusedVariables false

/-- A later world in which nothing of 'w' has turned. -/
structure Later (w : World) where
  world : World
  below : Below w.heap.size w world
/-- That world. -/
def World.later (w : World) (x : Later w) : World := x.world
theorem later_size (w : World) (x : Later w) : w.heap.size ≤ (World.later w x).heap.size := x.below.size

theorem wp_region_later {P : Program} {id : Nat} {Q : Exit → Act → World → Prop} {a : Act} {w : World} {l : List Oper} (hm : P.follows .mixedOrders = true) (hB : Region.lexB .any l.toArray = true)
    (h : wpQuiet P l.toArray (fun w' => ∃ x : Later w, w' = World.later w x) (fun a' => ∀ w', (∃ x : Later w, w' = World.later w x) → Q .normal a' w') l a) : (Code.region id l.toArray true).wp P Q a w :=
  wp_region_quiet (C := fun w' => ∃ x : Later w, w' = World.later w x) hm hB ⟨⟨_, (Below.refl _ _).drew⟩, rfl⟩ (by simpa using h)

/-- A callee's contract, met in such a world. -/
theorem later_of {P : Program} {f : FuncId} {args : Array Value} {w : World} {x : Later w} {v : Value}
    (h : Calls P f args (World.later w x) fun e w' => e = .returned v ∧ Below (World.later w x).heap.size (World.later w x) w') :
    Calls P f args (World.later w x) fun e w'' => e = .returned v ∧ ∃ y : Later w, w'' = World.later w y :=
  h.mono fun _ w' ⟨he, hb⟩ => ⟨he, ⟨w', x.below.trans (hb.mono x.below.size)⟩, rfl⟩
theorem later_of_same {P : Program} {f : FuncId} {args : Array Value} {w : World} {x : Later w} {v : Value}
    (h : Calls P f args (World.later w x) fun e w' => e = .returned v ∧ World.later w x = w') :
    Calls P f args (World.later w x) fun e w'' => e = .returned v ∧ ∃ y : Later w, w'' = World.later w y :=
  h.mono fun _ w' ⟨he, hb⟩ => ⟨he, x, hb.symm⟩

end Go.Proofs.Ytndnglaohjbapaa
