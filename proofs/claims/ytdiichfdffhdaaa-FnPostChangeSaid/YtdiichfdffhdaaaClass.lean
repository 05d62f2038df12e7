/-
  A region that draws its order, whose calls make memory of their own but leave all that lay before: one walk, in the text's order, serves every order.
-/
import Derived.Test.YtdiichfdffhdaaaBase
namespace Go.Proofs.Ytdiichfdffhdaaa
open Go.RowKit

/-- A world in which all that lay in W is as it was. -/
structure WB (W : World) where
  w : World
  h : Below W.heap.size W w
instance {W : World} : Nonempty (WB W) := ⟨⟨W, Below.refl _ _⟩⟩
theorem wp_region_below {P : Program} {id : Nat} {Q : Exit → Act → World → Prop} {a : Act} {W w : World} {l : List Oper} (hm : P.follows .mixedOrders = true) (hB : Region.lexB .any l.toArray = true) (hw : Below W.heap.size W w)
    (h : wpQuiet P l.toArray (fun w' => ∃ m : WB W, w' = m.w) (fun a' => ∀ w', (∃ m : WB W, w' = m.w) → Q .normal a' w') l a) : (Code.region id l.toArray true).wp P Q a w :=
  wp_region_quiet (C := fun w' => ∃ m : WB W, w' = m.w) hm hB ⟨⟨_, (below_drewN hw 1 : Below W.heap.size W w.drew)⟩, rfl⟩ (by simpa using h)
theorem Calls.below_of {P : Program} {f : FuncId} {args : Array Value} {W : World} {m : WB W} {v : Value} (h : Calls P f args m.w fun e w' => e = .returned v ∧ Below m.w.heap.size m.w w') :
    Calls P f args m.w fun e w'' => e = .returned v ∧ ∃ m' : WB W, w'' = m'.w :=
  h.mono fun _ _ ⟨he, hb⟩ => ⟨he, ⟨_, m.h.trans (hb.mono m.h.size)⟩, rfl⟩
/-- A world is given a name. -/
theorem Calls.at_world {P : Program} {f : FuncId} {args : Array Value} {W : World} {Q : Ending → World → Prop} (h : ∀ w, w = W → Calls P f args w Q) : Calls P f args W Q := h W rfl

end Go.Proofs.Ytdiichfdffhdaaa
