/-
  Contracts of the program's trustTests and GatesTrust.
-/
import Derived.Test.YtgalkbnlpadpfaaPassed
import Derived.Maps.OwnSet
import Derived.Maps.OwnOps
import Derived.Carry
namespace Go.Proofs.Ytgalkbnlpadpfaa
open Go.RowKit

def RV (v : Value) : Option (DataW Value × List MemPlace) := some (.held v, [])
def tfn (a : Nat) : Value := .func (.func 34) #[] #[.pointer (some ⟨a, 0, none⟩)]
def tD (f : Nat → Nat) : Nat → DataW Value
  | 0 => .map []
  | k + 1 => (tD f k).put (.int .i64 k) (.held (tfn (f k)))
theorem tD_congr {f g : Nat → Nat} (k : Nat) (h : ∀ j, j < k → f j = g j) : tD f k = tD g k := by
  induction k with
  | zero => rfl
  | succ k ih => rw [tD, tD, ih (fun j hj => h j (by omega)), h k (by omega)]
theorem tD_four (f : Nat → Nat) : tD f 4 = .map [(.int .i64 0, .held (tfn (f 0))), (.int .i64 1, .held (tfn (f 1))), (.int .i64 2, .held (tfn (f 2))), (.int .i64 3, .held (tfn (f 3)))] := by rfl
/-- The tests of the trusts, in a map at block B. -/
def TestsAt (w : World) (B : Nat) (wr : World) (k : Nat) : Prop :=
  ∃ f, wr.ownsMap Try.prog 3 RV B k (tD f k) ∧ ∀ j, j < k → B < f j ∧ f j < wr.heap.size ∧ wr.cell? ⟨f j, 0, none⟩ = some (.int .i64 j)
def RetTests (w : World) (e : Ending) (w' : World) : Prop := e = .returned (.map (some w.heap.size)) ∧ TestsAt w w.heap.size w' 4 ∧ Below w.heap.size w w'
theorem int_key : Go.Maps.Keyed Try.prog 3 := Go.Maps.int_keyed Try.underlying3
theorem testsAt_next {w w1 w2 : World} {B k : Nat} {f : Nat → Nat} (hB : B < w1.heap.size) (hf : ∀ j, j < k → B < f j ∧ f j < w1.heap.size ∧ w1.cell? ⟨f j, 0, none⟩ = some (.int .i64 j)) (hg : (w1.alloc (.cells #[.int .i64 k] 3)).grownBy w2 (some B)) (hm : w2.ownsMap Try.prog 3 RV B (k + 1) ((tD f k).put (.int .i64 k) (.held (tfn w1.heap.size)))) :
    TestsAt w B w2 (k + 1) := by
  refine ⟨fun j => if j = k then w1.heap.size else f j, ?_, ?_⟩
  · have e : tD (fun j => if j = k then w1.heap.size else f j) (k + 1) = (tD f k).put (.int .i64 k) (.held (tfn w1.heap.size)) := by
      rw [tD, tD_congr (g := f) k (fun j hj => if_neg (by omega))]; simp
    rw [e]; exact hm
  · intro j hj
    have hs := hg.size
    simp at hs
    by_cases hjk : j = k
    · subst hjk
      simp only [if_true]
      refine ⟨hB, by omega, ?_⟩
      rw [World.cell?_of_block (hg.block _ (by simp) (by simp; omega))]
      simp [go_sem]
    · simp only [if_neg hjk]
      obtain ⟨h1, h2, h3⟩ := hf j (by omega)
      refine ⟨h1, by omega, ?_⟩
      rw [World.cell?_of_block (hg.block _ (by simp; omega) (by simp; omega)), cell_alloc1 _ (by show f j < _; omega)]
      exact h3

set_option maxHeartbeats 2000000 in
theorem trustTests_any (w : World) : Calls Try.prog 30 #[] w (RetTests w) := by
  have hmm := @run_makeMap Try.prog
  go_enter Try.func30, Try.ntmps30
  go_wp2_with fail
  go_loopw [4] (fun i wr => ∃ k : Nat, k ≤ 4 ∧ i = .int .i64 k ∧ TestsAt w w.heap.size wr k ∧ w.heap.size < wr.heap.size ∧ Below w.heap.size w wr) (fun i _ => 4 - (intOf i).toNat)
  case atStart => exact ⟨0, by omega, rfl, ⟨fun _ => 0, World.ownsMap_made _ _ _ _, by omega⟩, by simp, below_alloc (Below.refl _ _) _⟩
  case round =>
    obtain ⟨k, hk, rfl, ⟨f, hm, hf⟩, hlt, hb⟩ := hrel
    have HF := Lib.hid hf
    clear hf
    by_cases hk4 : k < 4
    · have hkey : keyOf Try.prog 3 (.int .i64 (k : Int)) = some (.int .i64 (k : Int)) := Go.Maps.keyOf_int_mk Try.underlying3 (by simp [Lit.wf, IntKind.min, IntKind.max, IntKind.signed, IntKind.bits]; omega)
      go_wp2_with (at_mapUpdate; go_must (refine wpList_mapUpdate_own _ rfl _ _ _ 57 rfl 3 55 int_key Try.underlying57 RV w.heap.size k _ rfl (hm.alloc (.cells #[.int .i64 (k : Int)] 3)) (by unfold maxLen; omega) _ _ _ rfl rfl hkey (.held (tfn wr.heap.size)) [] rfl ?_); intro w1 hown1 hg1)
      have hz1 := hg1.size
      have hnext := testsAt_next (w := w) hlt HF.out hg1 hown1
      have hb1 : Below w.heap.size w w1 := (below_alloc hb (.cells #[.int .i64 (k : Int)] 3)).grown hg1 (by simp; omega) (fun j hj => by injection hj with hj; omega)
      go_roundw
      case rel => exact ⟨k + 1, by omega, by go_num, hnext, by simp at hz1; omega, hb1⟩
      case measure => simp [intOf]; omega
    · obtain rfl : k = 4 := by omega
      go_wp2_with fail
      go_ret
      exact ⟨rfl, ⟨f, hm, HF.out⟩, hb⟩

end Go.Proofs.Ytgalkbnlpadpfaa
