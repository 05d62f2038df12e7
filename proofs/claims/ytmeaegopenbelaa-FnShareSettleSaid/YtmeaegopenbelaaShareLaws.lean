/-
  Plain laws on shares: what one mile brings, a ride over all, and settlements.
-/
import Derived.Test.YtmeaegopenbelaaShareMath
import Derived.Test.YtmeaegopenbelaaPartsMath
import Derived.Test.YtmeaegopenbelaaShareLen
import Derived.Test.YtmeaegopenbelaaSettleS
namespace Go.Proofs.Ytmeaegopenbelaa

theorem sum_map_sub (l : List Nat) (g h : Nat → Int) : sumI (l.map fun i => g i - h i) = sumI (l.map g) - sumI (l.map h) := by
  induction l with
  | nil => simp [sumI]
  | cons x r ih => simp only [List.map_cons, sumI_cons, ih]; omega
theorem minus_sum {a b : List Int} (h : a.length = b.length) : sumI (minusL a b) = sumI a - sumI b := by
  unfold minusL
  rw [sum_map_sub, map_getD, h, map_getD]
theorem minus_getD {a b : List Int} {k : Nat} (h : k < a.length) : (minusL a b).getD k 0 = a.getD k 0 - b.getD k 0 := by
  unfold minusL
  rw [List.getD_eq_getElem?_getD, List.getElem?_map, List.getElem?_range h]; rfl
theorem cnt_one {o : Int} (i : Nat) (hi : i < 6) : (cntL [o]).getD i 0 = if (i : Int) = o then 1 else 0 := by
  rw [cntL_get _ hi]
  by_cases e : (i : Int) = o
  · rw [if_pos e]; simp [e]
  · rw [if_neg e]
    have : ¬ o = (i : Int) := fun h => e h.symm
    simp [this]
theorem share_one {o a : Int} (h0 : 0 ≤ o) (h1 : o ≤ 5) (i : Nat) (hi : i < 6) : (shareL (cntL [o]) a).getD i 0 = if (i : Int) = o then a else 0 := by
  have hs : sumI (cntL [o]) = 1 := by rw [cntL_sum _ (by intro x hx; rw [List.mem_singleton] at hx; subst hx; exact ⟨h0, h1⟩)]; rfl
  have hd := share_due (m := cntL [o]) (a := a) (by omega) (i := i) (by rw [cntL_len]; exact hi)
  rw [hs, cnt_one i hi] at hd
  by_cases e : (i : Int) = o
  · rw [if_pos e] at hd ⊢; omega
  · rw [if_neg e] at hd ⊢; omega
section
variable {ps : List T2} {f t a : Int}
theorem rideSh_and (h : rideShOk ps f t a = true) : stretchB ps f t = true ∧ (0 ≤ a ∧ a ≤ 1000000) ∧ rideShV ps f t a = shareL (cntL (stretchL ps f t)) a := by
  have h' := h
  simp only [rideShOk, Bool.and_eq_true] at h'
  exact ⟨h'.1, of_inB h'.2, by unfold rideShV; rw [h]; rfl⟩
theorem rideSh_mk (h : stretchB ps f t = true) (ha : 0 ≤ a ∧ a ≤ 1000000) : rideShOk ps f t a = true := by
  unfold rideShOk; rw [h, inB_true ha]; rfl
/-- FnShareRide. -/
theorem ride_share_law (h : rideShOk ps f t a = true) : partsB ps = true ∧ lenV ps = ((ownersL ps).length : Nat) ∧ 0 ≤ f ∧ f < (ownersL ps).length ∧ makeOk ps a = true ∧ rideShOk ps 0 (ownersL ps).length a = true ∧ rideShV ps 0 (ownersL ps).length a = makeV ps a ∧
    rideShOk ps f (f + 1) a = true ∧ (rideShV ps f (f + 1) a).length = 6 ∧ (∀ i : Nat, i < 6 → (rideShV ps f (f + 1) a).getD i 0 = if (i : Int) = (ownersL ps).getD f.toNat 0 then a else 0) ∧ sumI (rideShV ps f t a) = a ∧ (0 ≤ a ∧ a ≤ 1000000) ∧ (∀ x ∈ rideShV ps f t a, 0 ≤ x ∧ x ≤ 1000000) := by
  obtain ⟨hs, ha, hv⟩ := rideSh_and h
  obtain ⟨hp, h0, h1, h2, h3, h4, h5, _⟩ := stretch_and hs
  obtain ⟨q1, q2, q3, q4, q5⟩ := parts_pos hp
  have hall := stretch_all hp
  have hmk : makeOk ps a = true := by unfold makeOk; rw [hp, inB_true ha]; rfl
  have hok0 := rideSh_mk hall.1 ha
  have hf1 : stretchB ps f (f + 1) = true := by
    unfold stretchB; rw [hp, decide_eq_true (by omega)]; rfl
  have hok1 := rideSh_mk hf1 ha
  have hst : stretchL ps f (f + 1) = [(ownersL ps).getD f.toNat 0] := by
    have hlt : f.toNat < (ownersL ps).length := by omega
    rw [stretch_next h0 (Int.le_refl f) hlt, stretch_none, List.getD_eq_getElem?_getD, List.getElem?_eq_getElem hlt]; rfl
  have ho : 0 ≤ (ownersL ps).getD f.toNat 0 ∧ (ownersL ps).getD f.toNat 0 ≤ 5 := by
    have hlt : f.toNat < (ownersL ps).length := by omega
    rw [List.getD_eq_getElem?_getD, List.getElem?_eq_getElem hlt]
    exact q5 _ (List.getElem_mem hlt)
  have hv1 : rideShV ps f (f + 1) a = shareL (cntL [(ownersL ps).getD f.toNat 0]) a := by rw [(rideSh_and hok1).2.2, hst]
  refine ⟨hp, by unfold lenV; rw [hp]; rfl, h0, by omega, hmk, hok0, ?_, hok1, ?_, ?_, ?_, ha, ?_⟩
  · rw [(rideSh_and hok0).2.2, hall.2]; unfold makeV; rw [hmk]; rfl
  · rw [hv1]
    refine shareL_six (fun o h' => ?_) (by simp)
    rw [List.mem_singleton] at h'; subst h'; exact ho
  · intro i hi
    rw [hv1, share_one ho.1 ho.2 i hi]
  · rw [hv, share_sum h5]
  · intro x hx
    rw [hv] at hx
    have := share_nn h5 ha.1 (fun y hy => (cntL_bd _ y hy).1) x hx
    omega
end
section
variable {ps : List T2} {a : Int}
/-- FnShareMake, FnShareOrder. -/
theorem make_law (h : makeOk ps a = true) : partsB ps = true ∧ (0 ≤ a ∧ a ≤ 1000000) ∧ lenV ps = ((ownersL ps).length : Nat) ∧ milesV ps = cntL (ownersL ps) ∧ makeV ps a = shareL (cntL (ownersL ps)) a ∧ 0 < sumI (cntL (ownersL ps)) ∧ sumI (cntL (ownersL ps)) = (ownersL ps).length ∧ 1 ≤ (ownersL ps).length ∧ (ownersL ps).length ≤ 1188 ∧
    (makeV ps a).length = 6 ∧ (∀ x ∈ makeV ps a, 0 ≤ x ∧ x ≤ 1000000) ∧ sumI (makeV ps a) = a ∧ (∀ x ∈ cntL (ownersL ps), 0 ≤ x ∧ x ≤ 1188) := by
  have h' := h
  simp only [makeOk, Bool.and_eq_true] at h'
  obtain ⟨q1, q2, q3, q4, q5⟩ := parts_pos h'.1
  have ha := of_inB h'.2
  have hv : makeV ps a = shareL (cntL (ownersL ps)) a := by unfold makeV; rw [h]; rfl
  refine ⟨h'.1, ha, by unfold lenV; rw [h'.1]; rfl, by unfold milesV; rw [h'.1]; rfl, hv, q1, q2, q4, q3, ?_, ?_, ?_, ?_⟩
  · rw [hv]; exact shareL_six q5 q4
  · intro x hx
    rw [hv] at hx
    have := share_nn q1 ha.1 (fun y hy => (cntL_bd _ y hy).1) x hx
    omega
  · rw [hv, share_sum q1]
  · intro x hx
    have := cntL_bd _ x hx
    omega
end
/-- FnShareSettle. -/
theorem settle_law {ps : List T2} {tk : List Int} (h : settleOk ps tk = true) : makeOk ps (sumI tk) = true ∧ tk.length = 6 ∧ (settleV ps tk).length = 6 ∧ (makeV ps (sumI tk)).length = 6 ∧ (∀ i : Nat, i < 6 → (settleV ps tk).getD i 0 + tk.getD i 0 = (makeV ps (sumI tk)).getD i 0) ∧
    settleOk ps (makeV ps (sumI tk)) = true ∧ (settleV ps (makeV ps (sumI tk))).length = 6 ∧ (∀ i : Nat, i < 6 → (settleV ps (makeV ps (sumI tk))).getD i 0 = 0) ∧ sumI (settleV ps tk) = 0 ∧ (∀ x ∈ tk, 0 ≤ x ∧ x ≤ 1000000) ∧ (∀ x ∈ settleV ps tk, -1000000 ≤ x ∧ x ≤ 1000000) := by
  obtain ⟨hp, h6, hb, hs1, hs0⟩ := settle_and h
  have hmk : makeOk ps (sumI tk) = true := by unfold makeOk; rw [hp, inB_true ⟨hs0, hs1⟩]; rfl
  obtain ⟨_, _, _, _, hv, hpos, _, _, _, hl, hbd, hsum, _⟩ := make_law hmk
  have hsv : settleV ps tk = minusL (makeV ps (sumI tk)) tk := by unfold settleV; rw [h, hv]; rfl
  have hok2 : settleOk ps (makeV ps (sumI tk)) = true := by
    unfold settleOk
    rw [hp, hl, hsum, decide_eq_true hs1]
    have : ((makeV ps (sumI tk)).all fun x => inB x 0 1000000) = true := by
      rw [List.all_eq_true]; intro x hx; exact inB_true (hbd x hx)
    rw [this]; rfl
  have hsv2 : settleV ps (makeV ps (sumI tk)) = minusL (makeV ps (sumI tk)) (makeV ps (sumI tk)) := by
    unfold settleV; rw [hok2, hsum, ← hv]; rfl
  refine ⟨hmk, h6, by rw [hsv, minus_len, hl], hl, ?_, hok2, by rw [hsv2, minus_len, hl], ?_, ?_, hb, ?_⟩
  · intro i hi
    rw [hsv, minus_getD (by omega)]; omega
  · intro i hi
    rw [hsv2, minus_getD (by omega)]; omega
  · rw [hsv, minus_sum (by omega), hsum]; omega
  · intro x hx
    rw [hsv] at hx
    obtain ⟨i, hi, rfl⟩ := List.mem_map.1 hx
    rw [List.mem_range] at hi
    have e1 : (makeV ps (sumI tk)).getD i 0 ∈ makeV ps (sumI tk) := by
      rw [List.getD_eq_getElem?_getD, List.getElem?_eq_getElem hi]; exact List.getElem_mem hi
    have hi2 : i < tk.length := by omega
    have e2 : tk.getD i 0 ∈ tk := by
      rw [List.getD_eq_getElem?_getD, List.getElem?_eq_getElem hi2]; exact List.getElem_mem hi2
    have := hbd _ e1
    have := hb _ e2
    omega

end Go.Proofs.Ytmeaegopenbelaa
