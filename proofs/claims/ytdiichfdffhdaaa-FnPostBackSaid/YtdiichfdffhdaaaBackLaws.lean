/-
  Plain laws on nets that go back: twice back is the net; latest forward is earliest backward.
-/
import Derived.Test.YtdiichfdffhdaaaPostLaws2
import Derived.Test.YtdiichfdffhdaaaBackMath
namespace Go.Proofs.Ytdiichfdffhdaaa

theorem bk_bk (turn : Int) (s : T3) : bk turn (bk turn s) = s := by
  unfold bk
  simp only
  rw [show turn - (turn - s.2.1) = s.2.1 by omega, show turn - (turn - s.2.2) = s.2.2 by omega]
theorem backM_twice (turn : Int) (l : List T3) : backM turn (backM turn l) = l := by
  unfold backM
  rw [← List.map_reverse, List.reverse_reverse, List.map_map]
  have : (bk turn ∘ bk turn) = id := by funext s; exact bk_bk turn s
  rw [this, List.map_id]
section
variable {n turn : Int} {net : Net}
theorem backN_and (h : backNOk n net turn = true) : netB n net = true ∧ (∀ l ∈ net, backOk n l turn = true) ∧ backN n net turn = net.map (backM turn) := by
  have e := backN_yes h
  simp only [backNOk, Bool.and_eq_true, List.all_eq_true] at h
  exact ⟨h.1, h.2, e⟩
theorem back_twice (h : backNOk n net turn = true) : netB n (backN n net turn) = true ∧ backNOk n (backN n net turn) turn = true ∧ backN n (backN n net turn) turn = net := by
  obtain ⟨h1, h2, h3⟩ := backN_and h
  have hnet : netB n (backN n net turn) = true := by
    rw [h3]
    have h4 := h1
    simp only [netB, Bool.and_eq_true, decide_eq_true_eq, List.all_eq_true, List.length_map, List.mem_map] at h4 ⊢
    refine ⟨h4.1, ?_⟩
    rintro l ⟨m, hm, rfl⟩
    have := h2 m hm
    simp only [backOk, Bool.and_eq_true] at this
    exact this.2
  have hok : backNOk n (backN n net turn) turn = true := by
    simp only [backNOk, Bool.and_eq_true, List.all_eq_true]
    refine ⟨hnet, fun l hl => ?_⟩
    rw [h3, List.mem_map] at hl
    obtain ⟨m, hm, rfl⟩ := hl
    have hb := h2 m hm
    have hs := netB_mem h1 hm
    simp only [backOk, backPre, Bool.and_eq_true] at hb ⊢
    rw [backM_twice]
    exact ⟨⟨hb.2, hb.1.2⟩, hs⟩
  refine ⟨hnet, hok, ?_⟩
  rw [backN_yes hok, h3, List.map_map]
  have : (backM turn ∘ backM turn) = id := by funext l; exact backM_twice turn l
  rw [this, List.map_id]
theorem backM_get (l : List T3) (i : Nat) (hi : i < l.length) : (backM turn l)[i]? = (l[l.length - 1 - i]?).map (bk turn) := by
  unfold backM
  rw [List.getElem?_map, List.getElem?_reverse hi]
theorem hop_back {a b : T3} (hh : Hop net a b) : Hop (net.map (backM turn)) (bk turn b) (bk turn a) := by
  obtain ⟨l, hl, i, j, hij, hi, hj⟩ := hh
  obtain ⟨hi', rfl⟩ := List.getElem?_eq_some_iff.1 hi
  obtain ⟨hj', rfl⟩ := List.getElem?_eq_some_iff.1 hj
  refine ⟨backM turn l, List.mem_map.2 ⟨l, hl, rfl⟩, l.length - 1 - j, l.length - 1 - i, by omega, ?_, ?_⟩
  · rw [backM_get l _ (by omega), show l.length - 1 - (l.length - 1 - j) = j by omega, hj]; rfl
  · rw [backM_get l _ (by omega), show l.length - 1 - (l.length - 1 - i) = i by omega, hi]; rfl
theorem hop_unback {a b : T3} (hh : Hop (net.map (backM turn)) a b) : Hop net (bk turn b) (bk turn a) := by
  have := hop_back (turn := turn) hh
  rw [List.map_map] at this
  have e : (backM turn ∘ backM turn) = id := by funext l; exact backM_twice turn l
  rwa [e, List.map_id] at this
variable {a b till : Int}
theorem edge_there {v x : Int} (h : Rr (EdB net b 0) b (10000 - till) v x) : Rr (EdF (net.map (backM turn)) b 0) b (turn - till) v (x - (10000 - turn)) := by
  refine Rr_ind (Q := fun v x => Rr (EdF (net.map (backM turn)) b 0) b (turn - till) v (x - (10000 - turn))) ?_ ?_ h
  · have e : 10000 - till - (10000 - turn) = turn - till := by omega
    rw [e]; exact Rr_start
  · rintro u y thr v x _ hq ⟨p, q, hh, rfl, rfl, rfl, _, rfl⟩ hy
    refine Rr_step hq ⟨bk turn q, bk turn p, hop_back hh, rfl, rfl, rfl, ?_⟩ ?_
    · unfold bk; simp only; omega
    · have : chg b 0 (bk turn q).1 = 0 := by unfold chg; split <;> rfl
      rw [this]
      unfold thrB at hy
      unfold bk; simp only
      split at hy <;> omega
theorem edge_here (hnet : netB n (net.map (backM turn)) = true) (hb : 0 ≤ b ∧ b < n) (ht : turn - till < 10001) {v x : Int} (h : Rr (EdF (net.map (backM turn)) b 0) b (turn - till) v x) : ∃ x2, x2 ≤ x + (10000 - turn) ∧ Rr (EdB net b 0) b (10000 - till) v x2 := by
  refine Rr_ind (Q := fun v x => ∃ x2, x2 ≤ x + (10000 - turn) ∧ Rr (EdB net b 0) b (10000 - till) v x2) ?_ ?_ h
  · exact ⟨10000 - till, by omega, Rr_start⟩
  · rintro u y thr v x hu ⟨y2, hy2, hq⟩ ⟨p, q, hh, rfl, rfl, rfl, rfl⟩ hy
    have hc : chg b 0 p.1 = 0 := by unfold chg; split <;> rfl
    rw [hc] at hy
    by_cases e : q.1 = b
    · refine ⟨10000 - till, ?_, by rw [e]; exact Rr_start⟩
      have h1 := Rr_step hu ⟨p, q, hh, rfl, rfl, rfl, rfl⟩ (show y ≤ p.2.2 - chg b 0 p.1 by rw [hc]; exact hy)
      have h2 := Rr_range (edF_ok hnet (Int.le_refl 0)) hb.1 hb.2 ht h1
      omega
    · have hh' := hop_unback hh
      refine ⟨10000 - (bk turn q).2.2, by unfold bk; simp only; omega, Rr_step hq ⟨bk turn q, bk turn p, hh', rfl, rfl, rfl, e, rfl⟩ ?_⟩
      unfold thrB bk
      simp only
      split <;> omega
/-- FnPostBack. -/
theorem back_law (h : backNOk n net turn = true) (ht0 : 0 ≤ turn) (ht1 : turn ≤ 10000) {time : Int} (h0 : 0 ≤ time) (h1 : time ≤ turn) (ha : 0 ≤ a ∧ a < n) (hb : 0 ≤ b ∧ b < n) :
    (leaveV n net a b time 0 = -1 ∧ postArr n (backN n net turn) b a (turn - time) 0 = -1) ∨ (0 ≤ leaveV n net a b time 0 ∧ 0 ≤ postArr n (backN n net turn) b a (turn - time) 0 ∧ leaveV n net a b time 0 = turn - postArr n (backN n net turn) b a (turn - time) 0) := by
  obtain ⟨hnet, hall, hN⟩ := backN_and h
  obtain ⟨hnet2, _, _⟩ := back_twice h
  have hok : postOk n net a time 0 = true := by
    simp only [postOk, Bool.and_eq_true, inB, decide_eq_true_eq]; exact ⟨⟨⟨hnet, by omega⟩, by omega⟩, by omega⟩
  have hok2 : postOk n (backN n net turn) b (turn - time) 0 = true := by
    simp only [postOk, Bool.and_eq_true, inB, decide_eq_true_eq]; exact ⟨⟨⟨hnet2, by omega⟩, by omega⟩, by omega⟩
  have eL : leaveV n net a b time 0 = if a = b then time else leaveFold n net a b time 0 net := by
    unfold leaveV; rw [if_pos]; simp only [Bool.and_eq_true, inB, decide_eq_true_eq]; exact ⟨hok, by omega⟩
  have eA : postArr n (backN n net turn) b a (turn - time) 0 = tg (tableL n (backN n net turn) b (turn - time) 0) a := by
    unfold postArr; rw [if_pos]; simp only [Bool.and_eq_true, inB, decide_eq_true_eq]; exact ⟨hok2, by omega⟩
  rw [eL, eA]
  by_cases hab : a = b
  · subst hab
    rw [if_pos rfl, tab_from hok2]
    right; omega
  · rw [if_neg hab]
    obtain ⟨hb1, hb2⟩ := leave_best hok hb hab
    have hlo := ((tab_ok hok2).tg ha.1 ha.2).1
    have hfw : 0 ≤ leaveFold n net a b time 0 net → 0 ≤ tg (tableL n (backN n net turn) b (turn - time) 0) a ∧ tg (tableL n (backN n net turn) b (turn - time) 0) a ≤ turn - leaveFold n net a b time 0 net := by
      intro hL
      rcases hb1 with hb1 | ⟨_, hle, hw⟩
      · omega
      · obtain ⟨L', hL1, hL2⟩ := works_back hnet (Int.le_refl 0) hab ha hb h0 hle hw
        have := edge_there (turn := turn) hL2
        rw [← hN] at this
        have := tab_cpl hok2 this
        omega
    have hbw : 0 ≤ tg (tableL n (backN n net turn) b (turn - time) 0) a → 0 ≤ leaveFold n net a b time 0 net ∧ turn - tg (tableL n (backN n net turn) b (turn - time) 0) a ≤ leaveFold n net a b time 0 net := by
      intro hT
      have hr := tab_snd hok2 ha.1 ha.2 hT
      rw [hN] at hr hnet2
      obtain ⟨x2, hx, hr2⟩ := edge_here hnet2 hb (by omega) hr
      rw [← hN] at hx
      obtain ⟨hw, p, q, hh, hp, hpe⟩ := back_works hnet (Int.le_refl 0) hab hr2
      have ho := hop_ok hnet hh
      have := hb2 (10000 - x2) (by omega) hw
      omega
    by_cases hT : 0 ≤ tg (tableL n (backN n net turn) b (turn - time) 0) a
    · have := hbw hT
      have := hfw this.1
      omega
    · left
      refine ⟨?_, by omega⟩
      rcases hb1 with hb1 | ⟨hb1, _⟩
      · exact hb1
      · exact absurd (hfw hb1).1 hT
end

end Go.Proofs.Ytdiichfdffhdaaa
