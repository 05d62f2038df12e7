/-
  Contracts of the program's StopsWait and StopsRun.
-/
import Derived.Test.YtdiichfdffhdaaaStopsI
import Derived.Test.YtdiichfdffhdaaaLateMath
import Derived.Deep.RegionHeld3
import Derived.Deep.LoopGhost
namespace Go.Proofs.Ytdiichfdffhdaaa
open Go.RowKit

def durS (s : T3) : Int := s.2.2 - s.2.1
def waitS (n : Int) (l : List T3) : Int := if stopsB n l then sumI (((l.drop 1).take (l.length - 2)).map durS) else -1
def runS (n : Int) (l : List T3) : Int := if stopsB n l then (l.getD (l.length - 1) (0, 0, 0)).2.1 - (l.getD 0 (0, 0, 0)).2.2 else -1
theorem chain_at {w : World} {lo hi : Nat} {q : Option Addr} {l : List T3} {k : Nat} (h : Chain w lo hi q (l.drop k)) (hk : k < l.length) :
    ∃ b q', q = some ⟨b, 0, none⟩ ∧ lo ≤ b ∧ b < hi ∧ w.cell? ⟨b, 0, none⟩ = some (.int .i64 l[k].1) ∧ w.cell? ⟨b, 1, none⟩ = some (.int .i64 l[k].2.1) ∧ w.cell? ⟨b, 2, none⟩ = some (.int .i64 l[k].2.2) ∧ w.cell? ⟨b, 3, none⟩ = some (.pointer q') ∧ Chain w lo hi q' (l.drop (k + 1)) := by
  rw [List.drop_eq_getElem_cons hk] at h; exact h
theorem chain_end {w : World} {lo hi : Nat} {q : Option Addr} {l : List T3} {k : Nat} (h : Chain w lo hi q (l.drop k)) (hk : ¬ k < l.length) : q = none := by
  rw [List.drop_eq_nil_of_le (by omega)] at h; exact h
theorem wait_step (l : List T3) (k : Nat) (h1 : 1 ≤ k) (hk : k < l.length) : sumI (((l.drop 1).take (k + 1 - 1)).map durS) = sumI (((l.drop 1).take (k - 1)).map durS) + (l[k].2.2 - l[k].2.1) := by
  obtain ⟨j, rfl⟩ : ∃ j, k = j + 1 := ⟨k - 1, by omega⟩
  simp only [Nat.add_sub_cancel]
  rw [List.take_succ_eq_append_getElem (by rw [List.length_drop]; omega), List.map_append, List.map_cons, List.map_nil, sumI_snoc]
  simp [durS, Nat.add_comm]

end Go.Proofs.Ytdiichfdffhdaaa
