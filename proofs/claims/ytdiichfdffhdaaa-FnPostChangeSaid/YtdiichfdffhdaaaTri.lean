/-
  Contracts of the law's own helpers on slices of structs of three integers: copy, compare, mark, look at the marks, count.
-/
import Derived.Test.YtdiichfdffhdaaaBase
import Derived.Deep.RegionHeld3
namespace Go.Proofs.Ytdiichfdffhdaaa
open Go.RowKit

def RetS (E : TypeId) (l : List T3) (w : World) (e : Ending) (w' : World) : Prop :=
  ∃ A c, e = .returned (.slice A l.length c) ∧ w'.ownsRow w.heap.size E 3 (.slice A l.length c) l.length (flat3 l) ∧ Below w.heap.size w w'
def toSRel (w : World) (E : TypeId) (l : List T3) (k : Nat) (g : Nat) (wr : World) : Prop :=
  wr.ownsRow w.heap.size E 3 (.slice (some ⟨g, 0, none⟩) l.length l.length) l.length (flat3 (l.take k ++ List.replicate (l.length - k) (0, 0, 0)))

/-- What marking lays: one number after the other. -/
def marks (k : Int) (n : Nat) : List T3 := (List.range n).map fun (i : Nat) => (k + 3 * i, k + 3 * i + 1, k + 3 * i + 1 + 1)
theorem marks_length (k : Int) (n : Nat) : (marks k n).length = n := by simp [marks]
theorem marks_get (k : Int) (n i : Nat) (h : i < (marks k n).length) : (marks k n)[i] = (k + 3 * i, k + 3 * i + 1, k + 3 * i + 1 + 1) := by simp [marks]
theorem marks_succ (k : Int) (n : Nat) : marks k (n + 1) = marks k n ++ [(k + 3 * n, k + 3 * n + 1, k + 3 * n + 1 + 1)] := by simp [marks, List.range_succ]
theorem mark_step (l : List T3) (k : Int) (i : Nat) (h : i < l.length) : (marks k i ++ l.drop i).set i (k + 3 * i, k + 3 * i + 1, k + 3 * i + 1 + 1) = marks k (i + 1) ++ l.drop (i + 1) := by
  rw [List.set_append_right _ _ (by rw [marks_length]; exact Nat.le_refl _), marks_length, Nat.sub_self, List.drop_eq_getElem_cons h, List.set_cons_zero, marks_succ, List.append_assoc]
  rfl
def markRel (base : Nat) (E : TypeId) (l : List T3) (k : Int) (i g n c : Nat) (wr : World) : Prop :=
  wr.ownsRow base E 3 (.slice (some ⟨g, 0, none⟩) n c) n (flat3 (marks k i ++ l.drop i))
def MarkS (base : Nat) (E : TypeId) (n : Nat) (v : Value) (k : Int) (w : World) (e : Ending) (w' : World) : Prop :=
  e = .returned (.int .i64 (k + 3 * n)) ∧ w'.ownsRow base E 3 v n (flat3 (marks k n)) ∧ w.grownBy w' v.ownBlock
theorem grownBy_refl (w : World) (row : Option Nat) : w.grownBy w row := ⟨rfl, rfl, rfl, Nat.le_refl _, fun _ _ _ => rfl⟩
theorem grownBy_setCell {a w : World} {g : Nat} (h : a.grownBy w (some g)) (o : Nat) (u : Value) : a.grownBy (w.setCell ⟨g, o, none⟩ u) (some g) :=
  h.trans ⟨rfl, rfl, rfl, by simp [World.setCell], fun k _ hk => Below.heap_setCell _ _ _ _ (fun e => hk (by rw [e]))⟩


end Go.Proofs.Ytdiichfdffhdaaa
