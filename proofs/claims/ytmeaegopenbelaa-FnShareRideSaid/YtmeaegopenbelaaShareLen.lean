/-
  How long the lists of shares are.
-/
import Derived.Test.YtmeaegopenbelaaSettleS
namespace Go.Proofs.Ytmeaegopenbelaa

theorem shareL_six {own : List Int} {a : Int} (h : ∀ o ∈ own, 0 ≤ o ∧ o ≤ 5) (h1 : 1 ≤ own.length) : (shareL (cntL own) a).length = 6 := by
  rw [share_len (cnt_pos h (by omega)), cntL_len]
theorem makeV_len (ps : List T2) (a : Int) : (makeV ps a).length ≤ 6 := by
  unfold makeV
  cases h : makeOk ps a
  · simp
  · simp only [makeOk, Bool.and_eq_true] at h
    have := parts_pos h.1
    simp only [if_true]
    rw [shareL_six this.2.2.2.2 this.2.2.2.1]; exact Nat.le_refl _
theorem rideShV_len (ps : List T2) (f t a : Int) : (rideShV ps f t a).length ≤ 6 := by
  unfold rideShV
  cases h : rideShOk ps f t a
  · simp
  · simp only [rideShOk, Bool.and_eq_true] at h
    have := stretch_and h.1
    simp only [if_true]
    rw [shareL_six this.2.2.2.2.2.1 (by omega)]; exact Nat.le_refl _
theorem settleV_len (ps : List T2) (tk : List Int) : (settleV ps tk).length ≤ 6 := by
  unfold settleV
  cases h : settleOk ps tk
  · simp
  · have h1 := settle_and h
    have := parts_pos h1.1
    simp only [if_true]
    rw [minus_len, shareL_six this.2.2.2.2 this.2.2.2.1]; exact Nat.le_refl _

end Go.Proofs.Ytmeaegopenbelaa
