/-
  Contracts of the drawers of gates. What they draw: some gates, some numbers.
-/
import Derived.Test.YtgalkbnlpadpfaaDrawWords
import Derived.Test.YtgalkbnlpadpfaaTri
import Derived.Deep.RegionWith
namespace Go.Proofs.Ytgalkbnlpadpfaa
open Go.RowKit

/-- Two numbers are drawn. -/
def DrewII (R p : Nat) (f : Nat → Int → Int) (w : World) (e : Ending) (w' : World) : Prop :=
  ∃ (x y : Int) (p' : Nat), e = .returned (.tuple #[.int .i64 x, .int .i64 y]) ∧ p ≤ p' ∧ p' ≤ p + 100 ∧ IsRdr w' R p' f ∧ w.grownBy w' (some R)
set_option maxRecDepth 100000 in
set_option maxHeartbeats 4000000 in
theorem way_any (R p : Nat) (f : Nat → Int → Int) (w : World) (h : IsRdr w R p f) (hp : p ≤ 900000) :
    Calls Try.prog 31 #[.pointer (some ⟨R, 0, none⟩)] w (DrewII R p f w) := by
  have h0 := drawF_bd (n := 20) h (p := p) (by omega) (by omega)
  go_enter Try.func31, Try.ntmps31
  go_wp2_with fail
  refine (pick_any 20 R p f _ h (by omega) (by omega) (by omega)).mono ?_
  rintro e w1 ⟨rfl, hs1⟩
  have hr1 := hs1.rdr h
  have hg1 := hs1.grown
  by_cases hz : f p 20 = 0
  · rw [hz]
    clear hz h0
    have hd : ((0 : Int) == 0) = true := by decide
    have h3 := drawF_bd (n := 3) hr1 (p := p + 1) (by omega) (by omega)
    have h2 := drawF_bd (n := 2) hr1 (p := p + 1 + 1) (by omega) (by omega)
    have hv : f (p + 1) 3 = 0 ∨ f (p + 1) 3 = 1 ∨ f (p + 1) 3 = 2 := by omega
    obtain ⟨y, hy⟩ : ∃ y, y = f (p + 1 + 1) 2 := ⟨_, rfl⟩
    have hRw := hr1.lt
    have hRne : R ≠ w1.heap.size := by omega
    clear hy
    rcases hv with hv | hv | hv
    all_goals
      go_wp2_with fail
      go_region_with (first | (go_at_call 29; ((with_reducible refine (pick_any 3 R (p + 1) f _ (by (repeat (first | assumption | apply IsRdr.drewN | apply IsRdr.drew | apply IsRdr.alloc | refine IsRdr.step' ?_ (by omega)))) (by omega) (by omega) (by omega)).mono ?_); rintro e w2 ⟨rfl, q2, rfl⟩)) | (go_at_call 29; ((with_reducible refine (pick_any 2 R (p + 1 + 1) f _ (by (repeat (first | assumption | apply IsRdr.drewN | apply IsRdr.drew | apply IsRdr.alloc | refine IsRdr.step' ?_ (by omega)))) (by omega) (by omega) (by omega)).mono ?_); rintro e w3 ⟨rfl, q3, rfl⟩)))
      all_goals
        go_wp2
        go_ret2
        exact ⟨_, _, p + 1 + 1 + 1, rfl, by omega, by omega, by (repeat (first | assumption | apply IsRdr.drewN | apply IsRdr.drew | apply IsRdr.alloc | refine IsRdr.step' ?_ (by omega))), by (repeat (first | assumption | apply gr_drewN | apply gr_drew | apply gr_alloc | apply gr_set))⟩
  · by_cases hz1 : f p 20 = 1
    · rw [hz1]
      clear hz hz1 h0
      have hd : ((1 : Int) == 0) = false := by decide
      have hd1 : ((1 : Int) == 1) = true := by decide
      go_wp2_with fail
      go_ret2
      exact ⟨40, 20, p + 1, rfl, by omega, by omega, hr1, hg1⟩
    · have hd : (f p 20 == 0) = false := by simpa using hz
      have hd1 : (f p 20 == 1) = false := by simpa using hz1
      have h3 := drawF_bd (n := 40) hr1 (p := p + 1) (by omega) (by omega)
      have h2 := drawF_bd (n := 140) hr1 (p := p + 1 + 1) (by omega) (by omega)
      clear hz hz1
      generalize f p 20 = v0 at *
      go_wp2_with fail
      refine (pick_any 40 R (p + 1) f _ hr1 (by omega) (by omega) (by omega)).mono ?_
      rintro e w2 ⟨rfl, hs2⟩
      have hr2 := hs2.rdr hr1
      have hg2 := hg1.trans hs2.grown
      go_wp2_with fail
      refine (pick_any 140 R (p + 1 + 1) f _ hr2 (by omega) (by omega) (by omega)).mono ?_
      rintro e w3 ⟨rfl, hs3⟩
      have hr3 := hs3.rdr hr2
      have hg3 := hg2.trans hs3.grown
      go_wp2_with fail
      go_ret2
      exact ⟨_, _, p + 1 + 1 + 1, rfl, by omega, by omega, hr3, hg3⟩

end Go.Proofs.Ytgalkbnlpadpfaa
