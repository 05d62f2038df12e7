/-
  Contracts of the drawers of the laws on gates: DrawGatesPassed, DrawGatesTrust.
-/
import Derived.Test.YtgalkbnlpadpfaaGatesDraw
import Derived.Test.YtgalkbnlpadpfaaDrawArgs
namespace Go.Proofs.Ytgalkbnlpadpfaa
open Go.RowKit

def RetGII (E : TypeId) (w : World) (e : Ending) (w' : World) : Prop :=
  ∃ (A : Option Addr) (c : Nat) (l : List T3) (x y : Int), e = .returned (.tuple #[.slice A l.length c, .int .i64 x, .int .i64 y]) ∧ l.length ≤ 100 ∧ w'.ownsRow w.heap.size E 3 (.slice A l.length c) l.length (flat3 l) ∧ Below w.heap.size w w'
set_option maxHeartbeats 1000000 in
theorem drawPassed_any (A : Option Addr) (n c : Nat) (bs : Nat → Int) (w : World) (h : Byt w w.heap.size A n bs) (hn : n ≤ 1048576) (hc : n ≤ c) :
    Calls Try.prog 17 #[.slice A n c] w (RetGII 37 w) := by
  go_enter Try.func17, Try.ntmps17
  go_wp2_with fail
  refine (open_any A n c bs _ h hn hc).mono ?_
  rintro e w1 ⟨f, rfl, hr1, hb1, hs1⟩
  go_wp2_with fail
  refine (gates_any w.heap.size 0 f _ hr1 (by omega)).mono ?_
  rintro e w2 ⟨A2, c2, p2, l, rfl, hl, ho2, hp1, hp2, hr2, hg2⟩
  go_wp2_with fail
  refine (way_any w.heap.size p2 f _ hr2 (by omega)).mono ?_
  rintro e w3 ⟨x, y, p3, rfl, _, _, hr3, hg3⟩
  go_wp2_with fail
  go_ret3
  exact ⟨A2, c2, l, x, y, rfl, hl, own_mono (own_draw ho2 hg3 (by omega)) (by omega), below_draw hb1 (hg2.trans hg3) (Nat.le_refl _)⟩
def RetGI (E : TypeId) (w : World) (e : Ending) (w' : World) : Prop :=
  ∃ (A : Option Addr) (c : Nat) (l : List T3) (x : Int), e = .returned (.tuple #[.slice A l.length c, .int .i64 x]) ∧ -1 ≤ x ∧ x ≤ 4 ∧ l.length ≤ 100 ∧ w'.ownsRow w.heap.size E 3 (.slice A l.length c) l.length (flat3 l) ∧ Below w.heap.size w w'
set_option maxHeartbeats 1000000 in
theorem drawTrust_any (A : Option Addr) (n c : Nat) (bs : Nat → Int) (w : World) (h : Byt w w.heap.size A n bs) (hn : n ≤ 1048576) (hc : n ≤ c) :
    Calls Try.prog 12 #[.slice A n c] w (RetGI 37 w) := by
  go_enter Try.func12, Try.ntmps12
  go_wp2_with fail
  refine (open_any A n c bs _ h hn hc).mono ?_
  rintro e w1 ⟨f, rfl, hr1, hb1, hs1⟩
  go_wp2_with fail
  refine (gates_any w.heap.size 0 f _ hr1 (by omega)).mono ?_
  rintro e w2 ⟨A2, c2, p2, l, rfl, hl, ho2, hp1, hp2, hr2, hg2⟩
  have hd := drawF_bd (n := 6) hr2 (p := p2) (by omega) (by omega)
  go_wp2_with fail
  refine (pick_any 6 w.heap.size p2 f _ hr2 (by omega) (by omega) (by omega)).mono ?_
  rintro e w3 ⟨rfl, hs3⟩
  have hg3 := hs3.grown
  generalize f p2 6 = x at *
  go_wp2_with fail
  go_ret2
  exact ⟨A2, c2, l, _, rfl, by omega, by omega, hl, own_mono (own_draw ho2 hg3 (by omega)) (by omega), below_draw hb1 (hg2.trans hg3) (Nat.le_refl _)⟩

end Go.Proofs.Ytgalkbnlpadpfaa
