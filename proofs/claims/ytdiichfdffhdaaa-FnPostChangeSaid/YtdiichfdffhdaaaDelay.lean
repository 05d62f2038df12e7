/-
  The program's test of a delay.
-/
import Derived.Test.YtdiichfdffhdaaaIn
namespace Go.Proofs.Ytdiichfdffhdaaa
open Go.RowKit

theorem delayValid_any (n : Int) (w : World) :
    Calls Try.prog 61 #[.int .i64 n] w fun e w' => e = .returned (.bool (inB n 0 300)) ∧ w = w' := by
  by_cases h1 : 0 ≤ n
  · go_enter Try.func61, Try.ntmps61
    go_wp2
    go_ret
    exact ⟨by simp [inB, h1], rfl⟩
  · have h1' : decide (0 ≤ n) = false := by simpa using h1
    go_enter Try.func61, Try.ntmps61
    go_wp2
    go_ret
    exact ⟨by simp [inB, h1'], rfl⟩

end Go.Proofs.Ytdiichfdffhdaaa
