/-
  A timetable and a net that go back: what PostBack of both sides returns.
-/
import Derived.Test.YtdiichfdffhdaaaNetMark
import Derived.Test.YtdiichfdffhdaaaJourneyMath
namespace Go.Proofs.Ytdiichfdffhdaaa
open Go.RowKit

def bk (turn : Int) (s : T3) : T3 := (s.1, turn - s.2.2, turn - s.2.1)
def backM (turn : Int) (l : List T3) : List T3 := l.reverse.map (bk turn)
def backPre (n : Int) (l : List T3) (turn : Int) : Bool := stopsB n l && inB turn 0 20000
def backOk (n : Int) (l : List T3) (turn : Int) : Bool := backPre n l turn && stopsB n (backM turn l)
def backV (n : Int) (l : List T3) (turn : Int) : List T3 := if backOk n l turn then backM turn l else []
theorem stopsB_nil (n : Int) : stopsB n [] = false := by simp [stopsB, sizesOk]
theorem backM_length (turn : Int) (l : List T3) : (backM turn l).length = l.length := by simp [backM]
theorem backM_step (turn : Int) (l : List T3) (k : Nat) (hk : k < l.length) : backM turn (l.drop k) = backM turn (l.drop (k + 1)) ++ [bk turn l[k]] := by
  unfold backM
  rw [List.drop_eq_getElem_cons hk, List.reverse_cons, List.map_append]; rfl
theorem back_no {n : Int} {l : List T3} {turn : Int} (h : backOk n l turn = false) : backV n l turn = [] := by simp [backV, h]
theorem back_yes {n : Int} {l : List T3} {turn : Int} (h : backOk n l turn = true) : backV n l turn = backM turn l := by simp [backV, h]
/-- What the reference has built when its loop ends. -/
def BackEnd (n : Int) (l : List T3) (turn : Int) (out : List T3) : Prop := stopsB n out = backOk n l turn ∧ (stopsB n out = true → out = backV n l turn)
theorem back_end {n : Int} {l : List T3} {turn : Int} (h : 0 < l.length → backPre n l turn = true) : BackEnd n l turn (backM turn (l.drop 0)) := by
  rw [List.drop_zero]
  have key : stopsB n (backM turn l) = backOk n l turn := by
    cases l with
    | nil => simp only [backM, List.reverse_nil, List.map_nil, backOk, backPre, stopsB_nil, Bool.false_and]
    | cons a r => rw [backOk, h (by simp), Bool.true_and]
  exact ⟨key, fun h1 => (back_yes (by rw [← key]; exact h1)).symm⟩
theorem back_out {n : Int} {l : List T3} {turn : Int} {k : Nat} (hk : k < l.length) (h : k + 1 < l.length → backPre n l turn = true) (hn : backPre n l turn = false) : BackEnd n l turn (backM turn (l.drop (k + 1))) := by
  have : ¬ k + 1 < l.length := fun hh => by rw [h hh] at hn; cases hn
  rw [List.drop_eq_nil_of_le (by omega)]
  have e : backM turn [] = [] := rfl
  rw [e]
  exact ⟨by rw [stopsB_nil, backOk, hn, Bool.false_and], fun h1 => by rw [stopsB_nil] at h1; cases h1⟩
def RetBk (E : TypeId) (l : List T3) (b : Bool) (w : World) (e : Ending) (w' : World) : Prop :=
  ∃ A c, e = .returned (.tuple #[.slice A l.length c, .bool b]) ∧ w'.ownsRow w.heap.size E 3 (.slice A l.length c) l.length (flat3 l) ∧ Below w.heap.size w w'
theorem retBk_no {E : TypeId} {l : List T3} {b : Bool} {w w1 : World} (hb : Below w.heap.size w w1) (h1 : l = []) (h2 : b = false) :
    RetBk E l b w (.returned (.tuple #[.slice (some ⟨w1.heap.size, 0, none⟩) 0 0, .bool false])) (w1.alloc (.cells #[] E)) := by
  subst h1 h2
  exact ⟨some ⟨w1.heap.size, 0, none⟩, 0, rfl, own_lit0 w1 w.heap.size E 3 hb.size, below_alloc hb _⟩
theorem retBk_yes {E : TypeId} {l L : List T3} {b : Bool} {w w1 : World} {A : Option Addr} {c m : Nat} (hm : L.length = m) (hb : Below w.heap.size w w1) (h1 : l = L) (h2 : b = true) (ho : w1.ownsRow w.heap.size E 3 (.slice A L.length c) L.length (flat3 L)) :
    RetBk E l b w (.returned (.tuple #[.slice A m c, .bool true])) w1 := by
  subst h1 h2 hm
  exact ⟨A, c, rfl, ho, hb⟩
/-- The net. -/
def backNOk (n : Int) (net : Net) (turn : Int) : Bool := netB n net && net.all fun l => backOk n l turn
def backN (n : Int) (net : Net) (turn : Int) : Net := if backNOk n net turn then net.map (backM turn) else []
theorem backN_no {n : Int} {net : Net} {turn : Int} (h : backNOk n net turn = false) : backN n net turn = [] := by simp [backN, h]
theorem backN_yes {n : Int} {net : Net} {turn : Int} (h : backNOk n net turn = true) : backN n net turn = net.map (backM turn) := by simp [backN, h]
theorem netSum_map (turn : Int) (net : Net) : netSum (net.map (backM turn)) = netSum net := by
  induction net with
  | nil => rfl
  | cons a r ih => simp only [List.map_cons, netSum, backM_length, ih]
theorem netSum_eightB {net : Net} (h : ∀ k (hk : k < net.length), net[k].length ≤ 8) : netSum net ≤ 8 * net.length := by
  induction net with
  | nil => simp [netSum]
  | cons a r ih =>
    have h0 := h 0 (by simp)
    have h1 := ih fun k hk => h (k + 1) (Nat.succ_lt_succ hk)
    simp only [netSum, List.length_cons, List.getElem_cons_zero] at h0 ⊢
    omega
theorem backN_size {n : Int} {net : Net} {turn : Int} : netSize (backN n net turn) ≤ 1048576 := by
  cases h : backNOk n net turn
  · rw [backN_no h]; simp [netSize, netSum]
  · rw [backN_yes h]
    simp only [backNOk, Bool.and_eq_true] at h
    obtain ⟨_, h6, hs⟩ := netB_and h.1
    have := netSum_eightB fun k hk => (stopsB_n (hs k hk)).2.2.2
    unfold netSize
    rw [netSum_map, List.length_map]; omega
theorem backN_stop {n : Int} {net : Net} {turn : Int} (k : Nat) (hk : k < net.length) (h : backOk n net[k] turn = false) : backNOk n net turn = false := by
  have : (net.all fun l => backOk n l turn) = false := by
    cases hc : net.all fun l => backOk n l turn
    · rfl
    · rw [List.all_eq_true] at hc; rw [hc _ (List.getElem_mem hk)] at h; cases h
  rw [backNOk, this, Bool.and_false]
theorem backN_next {n : Int} {net : Net} {turn : Int} {k : Nat} (hk : k < net.length) (h : (net.take k).all (fun l => backOk n l turn) = true) (h1 : backOk n net[k] turn = true) : (net.take (k + 1)).all (fun l => backOk n l turn) = true := by
  rw [List.take_succ_eq_append_getElem hk, List.all_append, h]; simp [h1]
theorem backN_full {n : Int} {net : Net} {turn : Int} {k : Nat} (hk : ¬ k < net.length) (h : (net.take k).all (fun l => backOk n l turn) = true) : backNOk n net turn = netB n net := by
  rw [List.take_of_length_le (by omega)] at h
  rw [backNOk, h, Bool.and_true]
theorem backN_map {turn : Int} {net : Net} {k : Nat} (hk : k < net.length) : (net.take (k + 1)).map (backM turn) = (net.take k).map (backM turn) ++ [backM turn net[k]] := by
  rw [List.take_succ_eq_append_getElem hk, List.map_append]; rfl

end Go.Proofs.Ytdiichfdffhdaaa
