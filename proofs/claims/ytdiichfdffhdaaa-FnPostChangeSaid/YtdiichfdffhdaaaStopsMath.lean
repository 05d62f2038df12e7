/-
  Plain words on timetables: when a list of stops is one; where it stops in a town.
-/
import Derived.Test.YtdiichfdffhdaaaIn
namespace Go.Proofs.Ytdiichfdffhdaaa
open Go.RowKit

def stopOk (n last : Int) (s : T3) : Bool := decide (0 ≤ s.1 ∧ s.1 ≤ n - 1 ∧ last + 1 ≤ s.2.1 ∧ s.2.1 ≤ 10000 ∧ s.2.1 ≤ s.2.2 ∧ s.2.2 ≤ 10000)
def hasTown (t : Int) (pre : List T3) : Bool := pre.any fun p => decide (p.1 = t)
def stopsFrom (n last : Int) (pre : List T3) : List T3 → Bool
  | [] => true
  | s :: r => stopOk n last s && !(hasTown s.1 pre) && stopsFrom n s.2.2 (pre ++ [s]) r
def sizesOk (n : Int) (l : List T3) : Bool := decide (1 ≤ n ∧ n ≤ 8 ∧ 2 ≤ l.length ∧ l.length ≤ 8)
def stopsB (n : Int) (l : List T3) : Bool := sizesOk n l && stopsFrom n (-1) [] l
/-- The index of the first stop in a town, or -1. -/
def atFrom (t : Int) (i : Nat) : List T3 → Int
  | [] => -1
  | s :: r => if s.1 = t then i else atFrom t (i + 1) r
def atL (t : Int) (l : List T3) : Int := atFrom t 0 l
def stopsAt (n : Int) (l : List T3) (t : Int) : Int := if stopsB n l then atL t l else -1

theorem stops_stop {n last : Int} {l : List T3} {k : Nat} {x : T3} (H : stopsFrom n (-1) [] l = stopsFrom n last (l.take k) (l.drop k)) (hk : k < l.length) (hx : x = l[k]) (hg : stopOk n last x = false ∨ hasTown x.1 (l.take k) = true) : stopsB n l = false := by
  unfold stopsB
  rw [H, List.drop_eq_getElem_cons hk, stopsFrom, ← hx]
  rcases hg with hg | hg <;> simp [hg]
theorem stops_go {n last : Int} {l : List T3} {k : Nat} {x : T3} (H : stopsFrom n (-1) [] l = stopsFrom n last (l.take k) (l.drop k)) (hk : k < l.length) (hx : x = l[k]) (hg : stopOk n last x = true) (ht : hasTown x.1 (l.take k) = false) : stopsFrom n (-1) [] l = stopsFrom n x.2.2 (l.take (k + 1)) (l.drop (k + 1)) := by
  rw [H, List.drop_eq_getElem_cons hk, stopsFrom, ← hx, hg, ht, List.take_succ_eq_append_getElem hk, ← hx]
  simp
theorem stops_end {n last : Int} {l : List T3} {k : Nat} (H : stopsFrom n (-1) [] l = stopsFrom n last (l.take k) (l.drop k)) (hk : ¬ k < l.length) (hs : sizesOk n l = true) : stopsB n l = true := by
  unfold stopsB
  rw [H, hs, List.drop_eq_nil_of_le (by omega)]
  rfl
theorem hasTown_take_succ (t : Int) (l : List T3) (k : Nat) (h : k < l.length) : hasTown t (l.take (k + 1)) = (hasTown t (l.take k) || decide (l[k].1 = t)) := by
  rw [List.take_succ_eq_append_getElem h, hasTown, hasTown, List.any_append]
  simp
theorem stopsB_n {n : Int} {l : List T3} (h : stopsB n l = true) : 1 ≤ n ∧ n ≤ 8 ∧ 2 ≤ l.length ∧ l.length ≤ 8 := by
  simp only [stopsB, Bool.and_eq_true, sizesOk, decide_eq_true_eq] at h
  exact h.1
theorem stopsFrom_get {n last : Int} {pre l : List T3} (h : stopsFrom n last pre l = true) (h0 : -1 ≤ last) (k : Nat) (hk : k < l.length) : 0 ≤ l[k].1 ∧ l[k].1 ≤ n - 1 ∧ 0 ≤ l[k].2.1 ∧ l[k].2.1 ≤ l[k].2.2 ∧ l[k].2.2 ≤ 10000 := by
  induction l generalizing last pre k with
  | nil => simp at hk
  | cons g r ih =>
    simp only [stopsFrom, Bool.and_eq_true, stopOk, decide_eq_true_eq] at h
    cases k with
    | zero => simp only [List.getElem_cons_zero]; omega
    | succ k => simp only [List.getElem_cons_succ]; exact ih h.2 (by omega) k _
theorem stopsB_get {n : Int} {l : List T3} (h : stopsB n l = true) (k : Nat) (hk : k < l.length) : 0 ≤ l[k].1 ∧ l[k].1 ≤ n - 1 ∧ 0 ≤ l[k].2.1 ∧ l[k].2.1 ≤ l[k].2.2 ∧ l[k].2.2 ≤ 10000 := by
  simp only [stopsB, Bool.and_eq_true] at h; exact stopsFrom_get h.2 (by omega) k hk
theorem atFrom_ge (t : Int) (i : Nat) (l : List T3) : atFrom t i l = -1 ∨ ∃ j, ∃ h : j < l.length, atFrom t i l = (i + j : Nat) ∧ l[j].1 = t := by
  induction l generalizing i with
  | nil => exact .inl rfl
  | cons g r ih =>
    rw [atFrom]
    by_cases hg : g.1 = t
    · exact .inr ⟨0, by simp, by simp [hg], by simpa using hg⟩
    · rw [if_neg hg]
      rcases ih (i + 1) with h | ⟨j, hj, h, ht⟩
      · exact .inl h
      · exact .inr ⟨j + 1, by simpa using hj, by rw [h]; congr 1; omega, by simpa using ht⟩
theorem atFrom_drop (t : Int) (l : List T3) (k : Nat) (h : k < l.length) (hne : l[k].1 ≠ t) : atFrom t k (l.drop k) = atFrom t (k + 1) (l.drop (k + 1)) := by
  rw [List.drop_eq_getElem_cons h, atFrom, if_neg hne]
theorem atFrom_here (t : Int) (l : List T3) (k : Nat) (h : k < l.length) (he : l[k].1 = t) : atFrom t k (l.drop k) = k := by
  rw [List.drop_eq_getElem_cons h, atFrom, if_pos he]

/-- The towns of stops as bits. -/
def maskOf : List T3 → Nat
  | [] => 0
  | s :: r => maskOf r ||| 2 ^ s.1.toNat
theorem maskOf_bit (pre : List T3) (t : Nat) (hp : ∀ s ∈ pre, 0 ≤ s.1) : (maskOf pre).testBit t = hasTown (t : Int) pre := by
  induction pre with
  | nil => simp [maskOf, hasTown]
  | cons s r ih =>
    have h0 := hp s (by simp)
    have hi := ih (fun x hx => hp x (by simp [hx]))
    rw [maskOf, Nat.testBit_or, hi, Nat.testBit_two_pow]
    rw [hasTown, hasTown, List.any_cons, Bool.or_comm]
    congr 1
    rw [decide_eq_decide]
    omega
theorem maskOf_append (pre : List T3) (s : T3) : maskOf (pre ++ [s]) = maskOf pre ||| 2 ^ s.1.toNat := by
  induction pre with
  | nil => simp [maskOf]
  | cons g r ih => simp only [List.cons_append, maskOf, ih, Nat.or_assoc]; rw [Nat.or_comm (2 ^ s.1.toNat)]
theorem maskOf_lt (pre : List T3) (hp : ∀ s ∈ pre, s.1 ≤ 7) : maskOf pre < 256 := by
  induction pre with
  | nil => simp [maskOf]
  | cons s r ih =>
    have h0 := hp s (by simp)
    have hi := ih (fun x hx => hp x (by simp [hx]))
    rw [maskOf]
    have h2 : 2 ^ s.1.toNat < 2 ^ 8 := Nat.pow_lt_pow_right (by omega) (by omega)
    exact Nat.or_lt_two_pow (n := 8) hi h2

end Go.Proofs.Ytdiichfdffhdaaa
