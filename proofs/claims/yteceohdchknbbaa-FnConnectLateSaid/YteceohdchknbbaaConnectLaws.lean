/-
  Plain laws of connections.
-/
import Derived.Test.YteceohdchknbbaaConnect2
namespace Go.Proofs.Yteceohdchknbbaa
open Go.RowKit

theorem madeB_bd {n : Int} {a b : List T3} {t late change most : Int} (h : madeB n a b t late change most = true) : 0 ≤ late ∧ late ≤ 300 ∧ 0 ≤ change ∧ change ≤ 300 ∧ 0 ≤ most ∧ most ≤ 300 := by
  simp only [madeB, iwOk, waitOk, Bool.and_eq_true] at h
  have h1 := of_inB h.1.2
  have h2 := of_inB h.1.1.2
  have h3 := of_inB h.1.1.1.2
  omega
theorem mostV_bd {n : Int} {a b : List T3} {t change most : Int} : -1 ≤ mostV n a b t change most ∧ mostV n a b t change most ≤ 300 := by
  unfold mostV
  split
  · rename_i h
    simp only [madeB, Bool.and_eq_true, decide_eq_true_eq] at h
    omega
  · omega
/-- P71. -/
theorem made_law {n : Int} {a b : List T3} {t late change most : Int} (h : madeB n a b t late change most = true) :
    (∀ k, 0 ≤ k → k ≤ late → madeB n a b t k change most = true) ∧ (most = 300 ∨ madeB n a b t late change (most + 1) = true) ∧ late ≤ mostV n a b t change most := by
  have hi := madeB_iff.1 h
  obtain ⟨_, _, _, _, hm0, hm1⟩ := madeB_bd h
  refine ⟨fun k h0 h1 => madeB_iff.2 ⟨h0, by omega⟩, ?_, hi.2⟩
  by_cases h3 : most = 300
  · exact .inl h3
  · refine .inr ?_
    simp only [madeB, iwOk, Bool.and_eq_true, decide_eq_true_eq] at h ⊢
    exact ⟨⟨h.1.1, inB_true (by omega)⟩, by omega⟩
/-- P73. -/
theorem most_law {n : Int} {a b : List T3} {t change most v : Int} (hv : v = mostV n a b t change most) (h0 : 0 ≤ v) :
    madeB n a b t v change most = true ∧ madeB n a b t (v + 1) change most = false ∧ mostV n a b t (change + 1) most ≤ v ∧ 0 ≤ change ∧ change ≤ 300 := by
  have h1 : madeB n a b t v change most = true := madeB_iff.2 ⟨h0, by omega⟩
  obtain ⟨_, _, hc0, hc1, _, _⟩ := madeB_bd h1
  refine ⟨h1, ?_, ?_, hc0, hc1⟩
  · cases h : madeB n a b t (v + 1) change most
    · rfl
    · have := madeB_iff.1 h; omega
  · have hb := mostV_bd (n := n) (a := a) (b := b) (t := t) (change := change + 1) (most := most)
    by_cases hx : mostV n a b t (change + 1) most < 0
    · omega
    · have h2 : madeB n a b t (mostV n a b t (change + 1) most) (change + 1) most = true := madeB_iff.2 ⟨by omega, by omega⟩
      rw [hv]
      refine (madeB_iff.1 ?_).2
      simp only [madeB, iwOk, Bool.and_eq_true, decide_eq_true_eq] at h2 ⊢
      have hw2 := h2.1.1
      have hw : waitOk n a b t (mostV n a b t (change + 1) most) change = true := by
        simp only [waitOk, Bool.and_eq_true] at hw2 ⊢
        exact ⟨hw2.1, inB_true ⟨hc0, hc1⟩⟩
      refine ⟨⟨hw, h2.1.2⟩, ?_⟩
      have e := h2.2
      rw [waitV, if_pos hw2] at e
      rw [waitV, if_pos hw]
      omega
/-- P72. -/
theorem late_law {n : Int} {a b : List T3} {t late change most : Int} (h : iwOk n a b t late change most = true) :
    0 ≤ stopsAt n a t ∧ 0 ≤ stopsAt n b t ∧ 0 ≤ late ∧ late ≤ 300 ∧ 0 ≤ change ∧ change ≤ 300 ∧ 0 ≤ most ∧ most ≤ 300 ∧
    ((madeB n a b t late change most = true ∧ lateV n a b t late change most = max 0 ((stopAt a (stopsAt n a t)).2.1 + late + change - (stopAt b (stopsAt n b t)).2.2) ∧ (stopAt a (stopsAt n a t)).2.1 + late + change - (stopAt b (stopsAt n b t)).2.2 ≤ most) ∨
     (madeB n a b t late change most = false ∧ lateV n a b t late change most = 0 ∧ most < (stopAt a (stopsAt n a t)).2.1 + late + change - (stopAt b (stopsAt n b t)).2.2)) := by
  have h' := h
  simp only [iwOk, waitOk, Bool.and_eq_true, decide_eq_true_eq] at h'
  have h1 := of_inB h'.2
  have h2 := of_inB h'.1.2
  have h3 := of_inB h'.1.1.2
  have hw : waitV n a b t late change = (stopAt a (stopsAt n a t)).2.1 + late + change - (stopAt b (stopsAt n b t)).2.2 := by
    rw [waitV, if_pos (by simp only [iwOk, Bool.and_eq_true] at h; exact h.1), waitR]; omega
  refine ⟨h'.1.1.1.1, h'.1.1.1.2, h3.1, h3.2, h2.1, h2.2, h1.1, h1.2, ?_⟩
  cases hm : madeB n a b t late change most
  · refine .inr ⟨rfl, by rw [lateV, hm]; rfl, ?_⟩
    simp only [madeB, h, Bool.true_and, decide_eq_false_iff_not] at hm
    omega
  · refine .inl ⟨rfl, by rw [lateV, hm, if_pos rfl, hw], ?_⟩
    simp only [madeB, h, Bool.true_and, decide_eq_true_eq] at hm
    omega

end Go.Proofs.Yteceohdchknbbaa
