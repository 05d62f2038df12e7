/-
  Plain words: the indexes of a list's elements that meet a test.
-/
import Derived.Test.YtgalkbnlpadpfaaBase
namespace Go.Proofs.Ytgalkbnlpadpfaa
open Go.RowKit

def selN (p : T3 → Bool) (l : List T3) (k : Nat) : List Nat := (List.range k).filter fun i => p (l.getD i (0, 0, 0))
def selI (p : T3 → Bool) (l : List T3) (k : Nat) : List Int := (selN p l k).map fun (i : Nat) => (i : Int)
theorem selN_succ (p : T3 → Bool) (l : List T3) (k : Nat) : selN p l (k + 1) = selN p l k ++ (if p (l.getD k (0, 0, 0)) then [k] else []) := by
  unfold selN; rw [List.range_succ, List.filter_append]; simp [List.filter_cons]
theorem selI_zero (p : T3 → Bool) (l : List T3) : selI p l 0 = [] := rfl
theorem selI_yes (p : T3 → Bool) (l : List T3) (k : Nat) (hk : k < l.length) (h : p l[k] = true) : selI p l (k + 1) = selI p l k ++ [(k : Int)] := by
  have e : l.getD k (0, 0, 0) = l[k] := by simp [List.getD, hk]
  unfold selI; rw [selN_succ, e, h]; simp
theorem selI_no (p : T3 → Bool) (l : List T3) (k : Nat) (hk : k < l.length) (h : p l[k] = false) : selI p l (k + 1) = selI p l k := by
  have e : l.getD k (0, 0, 0) = l[k] := by simp [List.getD, hk]
  unfold selI; rw [selN_succ, e, h]; simp
theorem selI_len (p : T3 → Bool) (l : List T3) (k : Nat) : (selI p l k).length ≤ k := by
  unfold selI selN; rw [List.length_map]; exact Nat.le_trans (List.length_filter_le _ _) (by simp)
theorem mem_selN {p : T3 → Bool} {l : List T3} {k i : Nat} : i ∈ selN p l k ↔ i < k ∧ p (l.getD i (0, 0, 0)) = true := by simp [selN]
theorem mem_selI {p : T3 → Bool} {l : List T3} {k : Nat} {x : Int} : x ∈ selI p l k ↔ ∃ i : Nat, x = i ∧ i < k ∧ p (l.getD i (0, 0, 0)) = true := by
  simp only [selI, List.mem_map, mem_selN]
  constructor
  · rintro ⟨i, h, rfl⟩; exact ⟨i, rfl, h⟩
  · rintro ⟨i, rfl, h⟩; exact ⟨i, h, rfl⟩
theorem selN_sorted (p : T3 → Bool) (l : List T3) (k : Nat) : (selN p l k).Pairwise (· < ·) := List.Pairwise.filter _ List.pairwise_lt_range
/-- The elements of what is selected. -/
theorem selI_get {p : T3 → Bool} {l : List T3} {k j : Nat} (h : j < (selI p l k).length) : ∃ i : Nat, (selI p l k)[j] = (i : Int) ∧ i < k ∧ p (l.getD i (0, 0, 0)) = true := by
  have := List.getElem_mem h
  rw [mem_selI] at this
  exact this
theorem selI_up {p : T3 → Bool} {l : List T3} {k j : Nat} (h : j + 1 < (selI p l k).length) : (selI p l k)[j] < (selI p l k)[j + 1] := by
  have hs := selN_sorted p l k
  have hl : (selI p l k).length = (selN p l k).length := by simp [selI]
  have := (List.pairwise_iff_getElem.1 hs) j (j + 1) (by omega) (by omega) (by omega)
  simp only [selI, List.getElem_map]
  omega
/-- A test that is met only by a first part, and another one that is met only behind it. -/
theorem selI_split {p q r : T3 → Bool} {l : List T3} (k : Nat) (hk : k ≤ l.length) (hall : ∀ i (h : i < l.length), r l[i] = (p l[i] || q l[i])) (hdis : ∀ i j (hi : i < l.length) (hj : j < l.length), q l[i] = true → p l[j] = true → j < i) :
    selI p l k ++ selI q l k = selI r l k := by
  induction k with
  | zero => rfl
  | succ k ih =>
    have ih := ih (by omega)
    have hlt : k < l.length := by omega
    have h := hall k hlt
    cases hp : p l[k]
    · rw [hp, Bool.false_or] at h
      rw [selI_no p l k hlt hp]
      cases hq : q l[k]
      · rw [selI_no q l k hlt hq, selI_no r l k hlt (h.trans hq), ih]
      · rw [selI_yes q l k hlt hq, selI_yes r l k hlt (h.trans hq), ← List.append_assoc, ih]
    · rw [hp, Bool.true_or] at h
      have hqk : selI q l k = [] := by
        have : ∀ m, m ≤ k → selI q l m = [] := by
          intro m
          induction m with
          | zero => intro _; rfl
          | succ m ihm =>
            intro hm
            rw [selI_no q l m (by omega) ?_, ihm (by omega)]
            cases hq : q l[m]
            · rfl
            · have := hdis m k (by omega) hlt hq hp; omega
        exact this k (Nat.le_refl _)
      have hq : q l[k] = false := by
        cases hq : q l[k]
        · rfl
        · have := hdis k k hlt hlt hq hp; omega
      rw [selI_yes p l k hlt hp, selI_no q l k hlt hq, selI_yes r l k hlt h, ← ih, hqk]
      simp

end Go.Proofs.Ytgalkbnlpadpfaa
