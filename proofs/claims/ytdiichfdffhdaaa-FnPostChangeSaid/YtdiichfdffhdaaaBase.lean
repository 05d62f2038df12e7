/-
  Words for memory that the proofs of this seat share: what a slice reads as, rows of structs, the step from a law's walk to its row.
-/
import Derived.Test.YtdiichfdffhdaaaRows
import Derived.WalkKit
import Derived.WalkSpells
import Derived.WalkLawsBesides
import Derived.Deep.QuietTactic
import Derived.BigQuiet
import Derived.BigGuardPart
import Derived.Lib.Hide
import Derived.Maps.AppendAt
import Derived.Deep.AppendLies
import Derived.Deep.Slices
import Derived.Deep.Fields
namespace Go.Proofs.Ytdiichfdffhdaaa
open Go.RowKit

/-- The cells that a slice with address A leads to are xs; they lie in one block, from lo on and below hi. -/
def Rd (w : World) (lo hi : Nat) (A : Option Addr) (xs : List Value) : Prop :=
  ∀ j (h : j < xs.length), ∃ b off, A = some ⟨b, off, none⟩ ∧ lo ≤ b ∧ b < hi ∧ w.cell? ⟨b, off + j, none⟩ = some xs[j]

abbrev T3 := Int × Int × Int
/-- Two structs of three integers are equal. -/
def same3 (x y : T3) : Bool := decide (x = y)
def cells3 (g : T3) : List Value := [.int .i64 g.1, .int .i64 g.2.1, .int .i64 g.2.2]
def flat3 : List T3 → List Value
  | [] => []
  | g :: r => .int .i64 g.1 :: .int .i64 g.2.1 :: .int .i64 g.2.2 :: flat3 r
def ints (l : List Int) : List Value := l.map (Value.int .i64)

theorem flat3_length (l : List T3) : (flat3 l).length = l.length * 3 := by
  induction l with
  | nil => rfl
  | cons g r ih => simp only [flat3, List.length_cons, ih]; omega
theorem ints_length (l : List Int) : (ints l).length = l.length := by simp [ints]
theorem flat3_append (a b : List T3) : flat3 (a ++ b) = flat3 a ++ flat3 b := by
  induction a with
  | nil => rfl
  | cons g r ih => simp only [List.cons_append, flat3, ih]
theorem ints_append (a b : List Int) : ints (a ++ b) = ints a ++ ints b := by simp [ints]
theorem flat3_get (l : List T3) (k : Nat) (h : k < l.length) :
    (flat3 l)[k * 3]? = some (.int .i64 l[k].1) ∧ (flat3 l)[k * 3 + 1]? = some (.int .i64 l[k].2.1) ∧ (flat3 l)[k * 3 + 2]? = some (.int .i64 l[k].2.2) := by
  induction l generalizing k with
  | nil => simp at h
  | cons g r ih =>
    cases k with
    | zero => simp [flat3]
    | succ k =>
      have := ih k (by simpa using h)
      have e : (k + 1) * 3 = k * 3 + 3 := by omega
      simpa [flat3, e] using this
theorem flat3_one (l : List T3) : ∀ u ∈ flat3 l, u.oneCell' = true := by
  induction l with
  | nil => simp [flat3]
  | cons g r ih => intro u hu; simp only [flat3, List.mem_cons] at hu; rcases hu with rfl | rfl | rfl | hu <;> first | rfl | exact ih u hu
theorem ints_one (l : List Int) : ∀ u ∈ ints l, u.oneCell' = true := by
  intro u hu; simp only [ints, List.mem_map] at hu; obtain ⟨a, _, rfl⟩ := hu; rfl

section
variable {w w' : World} {lo hi lo' hi' : Nat} {A : Option Addr} {xs : List Value}
theorem Rd.nil : Rd w lo hi A [] := fun j h => absurd h (by simp)
theorem Rd.keep (h : Rd w lo hi A xs) (hk : ∀ p : Addr, lo ≤ p.block → p.block < hi → w'.cell? p = w.cell? p) : Rd w' lo hi A xs := fun j hj => by
  obtain ⟨b, off, e, h1, h2, h3⟩ := h j hj
  exact ⟨b, off, e, h1, h2, (hk ⟨b, off + j, none⟩ h1 h2).trans h3⟩
theorem Rd.more (h : Rd w lo hi A xs) (h1 : lo' ≤ lo) (h2 : hi ≤ hi') : Rd w lo' hi' A xs := fun j hj => by
  obtain ⟨b, off, e, h1, h2, h3⟩ := h j hj
  exact ⟨b, off, e, by omega, by omega, h3⟩
theorem Rd.below {B : Nat} (h : Rd w lo hi A xs) (hb : Below B w w') (hB : hi ≤ B) : Rd w' lo hi A xs := h.keep fun _ _ hp => hb.cell (by omega)
theorem Rd.of_own {base : Nat} {e : TypeId} {size n c : Nat} (h : w.ownsRow base e size (.slice A n c) n xs) : Rd w base w.heap.size A xs := fun j hj => by
  have hn : 0 < n := by
    rcases Nat.eq_zero_or_pos n with h0 | h0
    · have := h.1; rw [h0] at this; simp at this; simp [this] at hj
    · exact h0
  obtain ⟨g, cap, hv, hb, hlt⟩ := h.form hn
  injection hv with hA
  subst hA
  refine ⟨g, 0, rfl, hb, hlt, ?_⟩
  have := h.cells (g := g) rfl j xs[j] (List.getElem?_eq_getElem hj)
  rw [← this]
  simp only [Nat.zero_add, Addr.add_lit]
theorem Rd.ge (h : Rd w lo hi A xs) (j : Nat) (v : Value) (hj : xs[j]? = some v) : ∃ b off, A = some ⟨b, off, none⟩ ∧ lo ≤ b ∧ b < hi ∧ w.cell? ⟨b, off + j, none⟩ = some v := by
  obtain ⟨hl, rfl⟩ := List.getElem?_eq_some_iff.1 hj
  exact h j hl
theorem Rd.at3 {l : List T3} (h : Rd w lo hi A (flat3 l)) (k : Nat) (hk : k < l.length) : ∃ b off, A = some ⟨b, off, none⟩ ∧ lo ≤ b ∧ b < hi ∧
    w.cell? ⟨b, off + k * 3, none⟩ = some (.int .i64 l[k].1) ∧ w.cell? ⟨b, off + k * 3 + 1, none⟩ = some (.int .i64 l[k].2.1) ∧ w.cell? ⟨b, off + k * 3 + 2, none⟩ = some (.int .i64 l[k].2.2) := by
  obtain ⟨g0, g1, g2⟩ := flat3_get l k hk
  obtain ⟨b, off, e, h1, h2, c0⟩ := h.ge _ _ g0
  obtain ⟨b1, off1, e1, _, _, c1⟩ := h.ge _ _ g1
  obtain ⟨b2, off2, e2, _, _, c2⟩ := h.ge _ _ g2
  rw [e] at e1 e2
  injection e1 with e1; injection e1 with e1 e1'; subst e1 e1'
  injection e2 with e2; injection e2 with e2 e2'; subst e2 e2'
  exact ⟨b, off, e, h1, h2, c0, c1, c2⟩
theorem Rd.at1 {l : List Int} (h : Rd w lo hi A (ints l)) (k : Nat) (hk : k < l.length) : ∃ b off, A = some ⟨b, off, none⟩ ∧ lo ≤ b ∧ b < hi ∧ w.cell? ⟨b, off + k, none⟩ = some (.int .i64 l[k]) :=
  h.ge k _ (by simp [ints, hk])
/-- A tail of the slice, as the model cuts it. -/
theorem Rd.cut {k size n cap : Nat} (h : Rd w lo hi A xs) (hl : xs.length = n * size) (hk : k ≤ n) (hc : n ≤ cap) : Rd w lo hi (if cap = k then A else A.map (·.add (k * size))) (xs.drop (k * size)) := fun j hj => by
  rw [List.length_drop] at hj
  obtain ⟨b, off, e, h1, h2, h3⟩ := h (k * size + j) (by omega)
  subst e
  by_cases hck : cap = k
  · exfalso
    have : n = k := by omega
    subst this
    omega
  · rw [if_neg hck]
    refine ⟨b, off + k * size, by simp [Addr.add_lit], h1, h2, ?_⟩
    rw [Nat.add_assoc, h3]
    simp
theorem Rd.take (h : Rd w lo hi A xs) (k : Nat) : Rd w lo hi A (xs.take k) := fun j hj => by
  rw [List.length_take] at hj
  obtain ⟨b, off, e, h1, h2, h3⟩ := h j (by omega)
  exact ⟨b, off, e, h1, h2, by rw [h3]; simp⟩
end

theorem below_drewN {B : Nat} {a w : World} (h : Below B a w) (n : Nat) : Below B a (w.drewN n) := ⟨h.os, h.tape, h.output, h.size, h.block⟩
theorem below_alloc {a w : World} (h : Below a.heap.size a w) (o : Obj) : Below a.heap.size a (w.alloc o) := h.alloc h.size o
theorem ret_bool {a b : Bool} (h : a = b) : Ending.returned (.bool a) = .returned (.bool b) := by rw [h]
theorem ret_int {a b : Int} (h : a = b) : Ending.returned (.int .i64 a) = .returned (.int .i64 b) := by rw [h]

theorem cell_below {W w1 : World} (hb : Below W.heap.size W w1) : ∀ b o, b < W.heap.size → w1.cell? ⟨b, o, none⟩ = W.cell? ⟨b, o, none⟩ := fun b o h => hb.cell (p := ⟨b, o, none⟩) h
theorem frozen_below {W w1 : World} (hb : Below W.heap.size W w1) : ∀ b o, b < W.heap.size → w1.frozen? ⟨b, o, none⟩ = W.frozen? ⟨b, o, none⟩ := fun b o h => hb.frozen (p := ⟨b, o, none⟩) h
theorem below_of_drew {a w : World} (h : Below a.drew.heap.size a.drew w) : Below a.heap.size a w := ⟨h.os, h.tape, h.output, h.size, h.block⟩
theorem below_of_drewN {a w : World} {n : Nat} (h : Below (a.drewN n).heap.size (a.drewN n) w) : Below a.heap.size a w := ⟨h.os, h.tape, h.output, h.size, h.block⟩
theorem grown_of_below {a w : World} (h : Below a.heap.size a w) (row : Option Nat) : a.grownBy w row := ⟨h.os, h.tape, h.output, h.size, fun i hi _ => h.block i hi⟩
theorem own_below {a w : World} {base : Nat} {e : TypeId} {size n : Nat} {v : Value} {xs : List Value} (h : a.ownsRow base e size v n xs) (hb : Below a.heap.size a w) : w.ownsRow base e size v n xs := by
  refine h.kept (grown_of_below hb none) ?_
  cases hv : v.ownBlock <;> simp
theorem own_lt {w : World} {base g n cap size : Nat} {e : TypeId} {xs : List Value} (h : w.ownsRow base e size (.slice (some ⟨g, 0, none⟩) n cap) n xs) : base ≤ g ∧ g < w.heap.size := h.lt g rfl

theorem flat3_set (L : List T3) (k : Nat) (x : T3) : ((((flat3 L).set (k * 3) (.int .i64 x.1)).set (k * 3 + 1) (.int .i64 x.2.1)).set (k * 3 + 2) (.int .i64 x.2.2)) = flat3 (L.set k x) := by
  induction L generalizing k with
  | nil => simp [flat3]
  | cons g r ih =>
    cases k with
    | zero => simp [flat3]
    | succ k =>
      have e : (k + 1) * 3 = k * 3 + 3 := by omega
      simp only [e, List.set_cons_succ, flat3, ← ih]

section
variable {w : World} {B g n cap : Nat} {E : TypeId} {L : List T3}
theorem own3_cells (h : w.ownsRow B E 3 (.slice (some ⟨g, 0, none⟩) n cap) n (flat3 L)) (k : Nat) (hk : k < L.length) :
    w.cell? ⟨g, k * 3, none⟩ = some (.int .i64 L[k].1) ∧ w.cell? ⟨g, k * 3 + 1, none⟩ = some (.int .i64 L[k].2.1) ∧ w.cell? ⟨g, k * 3 + 2, none⟩ = some (.int .i64 L[k].2.2) := by
  obtain ⟨b, off, e, _, _, c0, c1, c2⟩ := (Rd.of_own h).at3 k hk
  injection e with e; injection e with e1 e2; subst e1 e2
  simpa using And.intro c0 (And.intro c1 c2)
theorem own3_store (h : w.ownsRow B E 3 (.slice (some ⟨g, 0, none⟩) n cap) n (flat3 L)) (k : Nat) (x : T3) :
    (((w.setCell ⟨g, k * 3, none⟩ (.int .i64 x.1)).setCell ⟨g, k * 3 + 1, none⟩ (.int .i64 x.2.1)).setCell ⟨g, k * 3 + 2, none⟩ (.int .i64 x.2.2)).ownsRow B E 3 (.slice (some ⟨g, 0, none⟩) n cap) n (flat3 (L.set k x)) := by
  have h1 := (((h.stored (k * 3) (.int .i64 x.1)).1.stored (k * 3 + 1) (.int .i64 x.2.1)).1.stored (k * 3 + 2) (.int .i64 x.2.2)).1
  rwa [flat3_set] at h1
end
theorem fill_step {α : Type} (l : List α) (z : α) (k : Nat) (h : k < l.length) : (l.take k ++ List.replicate (l.length - k) z).set k l[k] = l.take (k + 1) ++ List.replicate (l.length - (k + 1)) z := by
  have e1 : l.length - k = (l.length - (k + 1)) + 1 := by omega
  have e2 : (l.take k).length = k := by rw [List.length_take]; omega
  rw [e1, List.replicate_succ, List.set_append_right _ _ (by omega), e2, Nat.sub_self, List.set_cons_zero, List.take_succ_eq_append_getElem h, List.append_assoc]
  rfl
theorem made3 (n : Nat) : (madeCells (Value.agg #[.int .i64 0, .int .i64 0, .int .i64 0]).cells (n * 3)).toList = flat3 (List.replicate n (0, 0, 0)) := by
  apply List.ext_getElem?
  intro j
  by_cases hj : j < n * 3
  · have hk : j / 3 < (List.replicate n ((0, 0, 0) : T3)).length := by rw [List.length_replicate]; omega
    obtain ⟨g0, g1, g2⟩ := flat3_get (List.replicate n ((0, 0, 0) : T3)) (j / 3) hk
    simp only [List.getElem_replicate] at g0 g1 g2
    have e : j = j / 3 * 3 + j % 3 := by omega
    have hmade : (madeCells (Value.agg #[.int .i64 0, .int .i64 0, .int .i64 0]).cells (n * 3)).toList[j]? = some (.int .i64 0) := by
      have hm : j % 3 = 0 ∨ j % 3 = 1 ∨ j % 3 = 2 := by omega
      rcases hm with hm | hm | hm <;> simp [madeCells, Value.cells, hj, hm]
    rw [hmade]
    have hm : j % 3 = 0 ∨ j % 3 = 1 ∨ j % 3 = 2 := by omega
    rcases hm with hm | hm | hm <;> rw [hm] at e
    · rw [Nat.add_zero] at e; rw [e, g0]
    · rw [e, g1]
    · rw [e, g2]
  · rw [List.getElem?_eq_none (by simp [madeCells]; omega), List.getElem?_eq_none (by rw [flat3_length, List.length_replicate]; omega)]

end Go.Proofs.Ytdiichfdffhdaaa
