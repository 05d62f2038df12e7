/-
  Rows that lie apart: a write into one leaves the other.
-/
import Derived.Test.YtdiichfdffhdaaaOwn
namespace Go.Proofs.Ytdiichfdffhdaaa
open Go.RowKit

section
variable {w w' : World} {base base' size size' n m : Nat} {e e' : TypeId} {v u : Value} {xs ys : List Value}
theorem own_apart (h : w.ownsRow base e size v n xs) (hg : w.grownBy w' u.ownBlock) (hlt : ∀ k, u.ownBlock = some k → k < base) : w'.ownsRow base e size v n xs :=
  h.kept hg (by
    cases hv : v.ownBlock with
    | none => exact .inl rfl
    | some k => refine .inr (fun e => ?_); have := (h.lt k hv).1; have := hlt k e.symm; omega)
theorem own_apart' (h : w.ownsRow base e size v n xs) (hu : w.ownsRow base' e' size' u m ys) (hg : w.grownBy w' u.ownBlock) (hlt : ∀ k, v.ownBlock = some k → k < base') : w'.ownsRow base e size v n xs :=
  h.kept hg (by
    cases hv : v.ownBlock with
    | none => exact .inl rfl
    | some k => refine .inr (fun e => ?_); have := (hu.lt k e.symm).1; have := hlt k hv; omega)
end

end Go.Proofs.Ytdiichfdffhdaaa
