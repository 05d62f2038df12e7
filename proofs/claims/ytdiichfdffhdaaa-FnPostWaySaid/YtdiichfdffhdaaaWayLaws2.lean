/-
  Plain law on the way: it is a journey that begins and ends where it should, and it has no fewer rides than the fewest.
-/
import Derived.Test.YtdiichfdffhdaaaWayLaws
namespace Go.Proofs.Ytdiichfdffhdaaa

theorem few_le_len {n : Int} {net : Net} {f to t0 ch : Int} (hok : postOk n net f t0 ch = true) (hto : 0 ≤ to ∧ to < n) (k : Nat) (h : ∃ x, Rk (EdF net f ch) f t0 k to x) : fewN n net f t0 ch to n.toNat 0 ≤ k := by
  by_cases hk : k < fewN n net f t0 ch to n.toNat 0
  · exact absurd ((tabK_reach hok hto k).2 h) ((fewN_before n.toNat 0).2 k (Nat.zero_le _) hk)
  · omega
/-- FnPostWay. -/
theorem way_law {n : Int} {net : Net} {f tt t0 ch : Int} (h : wayOk n net f tt t0 ch = true) : (wayV n net f tt t0 ch = [] ↔ f = tt) ∧
    ∀ hr : 0 < (wayV n net f tt t0 ch).length, jendOk n net (wayV n net f tt t0 ch) ch = true ∧ journeyB n net (wayV n net f tt t0 ch) ch = true ∧ jendTown n net (wayV n net f tt t0 ch) ch = tt ∧ jendTime n net (wayV n net f tt t0 ch) ch = postArr n net f tt t0 ch ∧
      rideOk net (wayV n net f tt t0 ch)[0] = true ∧ (fromOf net (wayV n net f tt t0 ch)[0]).1 = f ∧ t0 ≤ (fromOf net (wayV n net f tt t0 ch)[0]).2.2 ∧ fewV n net f tt t0 ch ≤ (wayV n net f tt t0 ch).length := by
  rcases way_case n net f tt t0 ch with ⟨hno, _⟩ | ⟨_, hok, htt, htg, hV⟩
  · rw [h] at hno; cases hno
  have hT := tableL_is hok
  have hTf := tab_from hok
  obtain ⟨hnet, hf, ht, hch, hn⟩ := postOk_and hok
  obtain ⟨w1, w2, w3, w4, w5⟩ := way_is hok hT hTf ((tg (tableL n net f t0 ch) tt).toNat + 1) tt htt.1 htt.2 htg (Nat.lt_succ_self _)
  have hlen : (wayB (tableL n net f t0 ch) f ch net tt).length = (wayV n net f tt t0 ch).length := by rw [hV, List.length_reverse]
  rw [hlen] at w5
  rw [← hV] at w1 w2 w3 w4
  have hin : (postOk n net f t0 ch && inB tt 0 (n - 1)) = true := by
    simp only [Bool.and_eq_true, inB, decide_eq_true_eq]; exact ⟨hok, by omega⟩
  have hpa : postArr n net f tt t0 ch = tg (tableL n net f t0 ch) tt := by unfold postArr; rw [if_pos hin]
  have hfew : fewV n net f tt t0 ch = (fewN n net f t0 ch tt n.toNat 0 : Nat) := by
    unfold fewV; rw [if_pos]; simp only [Bool.and_eq_true, decide_eq_true_eq]; exact ⟨by simpa using hin, htg⟩
  have hfl := few_le_len hok htt _ ⟨_, w5⟩
  generalize wayV n net f tt t0 ch = L at *
  refine ⟨⟨fun e => (w2.2 e).symm, fun e => w2.1 e.symm⟩, fun hr => ?_⟩
  have hne : L ≠ [] := List.length_pos_iff.1 hr
  have hj : journeyB n net L ch = true := journey_mk hnet hch w1
  have hje : jendOk n net L ch = true := by
    simp only [jendOk, Bool.and_eq_true, decide_eq_true_eq]; exact ⟨hj, hr⟩
  rcases jend_case n net L ch with e | ⟨_, _, _, e1, e2⟩
  · rw [hje] at e; cases e
  have hl := w4 (L.getLast hne) (List.getLast?_eq_some_getLast hne)
  rw [← lastRide_last hne] at hl
  have hh := w3 L[0] (by rw [List.head?_eq_getElem?, List.getElem?_eq_getElem hr])
  refine ⟨hje, hj, by rw [e1]; exact hl.1, by rw [e2, hpa]; exact hl.2, ridesB_ok w1 0 hr, hh.1, hh.2, ?_⟩
  rw [hfew]; omega

end Go.Proofs.Ytdiichfdffhdaaa
