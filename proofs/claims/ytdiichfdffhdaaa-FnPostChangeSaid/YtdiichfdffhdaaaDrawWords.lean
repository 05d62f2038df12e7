/-
  Words that the contracts of the drawers share.
-/
import Derived.Test.YtdiichfdffhdaaaPick
namespace Go.Proofs.Ytdiichfdffhdaaa
open Go.RowKit

/-- A slice of triples is drawn. -/
def DrewS (E : TypeId) (R p : Nat) (f : Nat → Int → Int) (w : World) (e : Ending) (w' : World) : Prop :=
  ∃ (A : Option Addr) (c p' : Nat) (l : List T3), e = .returned (.slice A l.length c) ∧ l.length ≤ 100 ∧ w'.ownsRow w.heap.size E 3 (.slice A l.length c) l.length (flat3 l) ∧ p ≤ p' ∧ p' ≤ p + 200 ∧ IsRdr w' R p' f ∧ w.grownBy w' (some R)
/-- A number is drawn. -/
def DrewI (R p : Nat) (f : Nat → Int → Int) (lo hi : Int) (w : World) (e : Ending) (w' : World) : Prop :=
  ∃ (x : Int) (p' : Nat), e = .returned (.int .i64 x) ∧ lo ≤ x ∧ x ≤ hi ∧ p ≤ p' ∧ p' ≤ p + 100 ∧ IsRdr w' R p' f ∧ w.grownBy w' (some R)
theorem draw_grown {a w w' : World} {R g m c : Nat} (h : a.grownBy w (some R)) (hg : w.grownBy w' (Value.slice (some ⟨g, 0, none⟩) m c).ownBlock) (hb : a.heap.size ≤ g) : a.grownBy w' (some R) := by
  refine ⟨hg.os.trans h.os, hg.tape.trans h.tape, hg.output.trans h.output, Nat.le_trans h.size hg.size, fun k hk hn => ?_⟩
  rw [hg.block k (Nat.lt_of_lt_of_le hk h.size) (fun e => by simp only [Value.ownBlock, Option.some.injEq] at e; omega), h.block k hk hn]
theorem draw_set {a w : World} {R g o : Nat} {u : Value} (h : a.grownBy w (some R)) (hb : a.heap.size ≤ g) : a.grownBy (w.setCell ⟨g, o, none⟩ u) (some R) := by
  refine ⟨h.os, h.tape, h.output, by simpa using h.size, fun k hk hn => ?_⟩
  rw [Below.heap_setCell _ _ _ _ (fun e => by simp only at e; omega), h.block k hk hn]
theorem mul_bd {a b A B : Int} (ha : 0 ≤ a ∧ a ≤ A) (hb : 0 ≤ b ∧ b ≤ B) : 0 ≤ a * b ∧ a * b ≤ A * B :=
  ⟨Int.mul_nonneg ha.1 hb.1, Int.mul_le_mul ha.2 hb.2 hb.1 (by omega)⟩
theorem flat3_take (L : List T3) (m : Nat) : (flat3 L).take (m * 3) = flat3 (L.take m) := by
  induction L generalizing m with
  | nil => simp [flat3]
  | cons g r ih =>
    cases m with
    | zero => simp [flat3]
    | succ m =>
      have e : (m + 1) * 3 = m * 3 + 3 := by omega
      simp only [e, List.take_succ_cons, flat3, ← ih]
theorem own_take {w : World} {base g n cap size m : Nat} {e : TypeId} {xs : List Value} (h : w.ownsRow base e size (.slice (some ⟨g, 0, none⟩) n cap) n xs) (hm : m ≤ n) : w.ownsRow base e size (.slice (some ⟨g, 0, none⟩) m cap) m (xs.take (m * size)) := by
  have hms : m * size ≤ n * size := Nat.mul_le_mul_right _ hm
  refine ⟨by rw [List.length_take, h.1]; omega, ?_⟩
  rcases h.2 with ⟨h1, _⟩ | ⟨g', cap', cur, h1, h2, h3, h4, h5, h6, h7⟩
  · cases h1
  · injection h1 with e1 _ e3
    subst e3
    injection e1 with e1; injection e1 with e1; subst e1
    refine .inr ⟨g, cap, cur, rfl, h2, h3, by omega, h5, h6, ?_⟩
    rw [← h7, List.take_take]; congr 1; omega

end Go.Proofs.Ytdiichfdffhdaaa
