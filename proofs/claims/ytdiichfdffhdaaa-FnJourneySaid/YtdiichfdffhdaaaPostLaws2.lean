/-
  Plain laws on the fewest rides and on the latest start.
-/
import Derived.Test.YtdiichfdffhdaaaPostLaws
import Derived.Test.YtdiichfdffhdaaaFewMath
import Derived.Test.YtdiichfdffhdaaaLeaveMath
namespace Go.Proofs.Ytdiichfdffhdaaa

section
variable {n : Int} {net : Net} {f to t0 ch : Int}
theorem few_case (n : Int) (net : Net) (f to t0 ch : Int) : fewV n net f to t0 ch = -1 ∨ (postOk n net f t0 ch = true ∧ (0 ≤ to ∧ to < n) ∧ 0 ≤ tg (tableL n net f t0 ch) to ∧ fewV n net f to t0 ch = (fewN n net f t0 ch to n.toNat 0 : Nat)) := by
  unfold fewV
  by_cases h : (postOk n net f t0 ch && inB to 0 (n - 1) && decide (0 ≤ tg (tableL n net f t0 ch) to)) = true
  · rw [if_pos h]
    simp only [Bool.and_eq_true, inB, decide_eq_true_eq] at h
    exact .inr ⟨h.1.1, by omega, h.2, rfl⟩
  · rw [if_neg h]; exact .inl rfl
/-- Each number of rounds below the result does not do. -/
theorem fewN_before (fuel i : Nat) : i ≤ fewN n net f t0 ch to fuel i ∧ ∀ j, i ≤ j → j < fewN n net f t0 ch to fuel i → ¬ 0 ≤ tg (tabK n net f t0 ch j) to := by
  induction fuel generalizing i with
  | zero => exact ⟨Nat.le_refl _, fun j h1 h2 => absurd h2 (by show ¬ j < i; omega)⟩
  | succ fuel ih =>
    unfold fewN
    by_cases e : 0 ≤ tg (tabK n net f t0 ch i) to
    · rw [if_pos e]; exact ⟨Nat.le_refl _, fun j h1 h2 => by omega⟩
    · rw [if_neg e]
      obtain ⟨h1, h2⟩ := ih (i + 1)
      refine ⟨by omega, fun j h3 h4 => ?_⟩
      by_cases hj : j = i
      · subst hj; exact e
      · exact h2 j (by omega) h4
theorem fewN_does (hok : postOk n net f t0 ch = true) (hto : 0 ≤ to ∧ to < n) (h : 0 ≤ tg (tableL n net f t0 ch) to) : fewN n net f t0 ch to n.toNat 0 < n.toNat ∧ 0 ≤ tg (tabK n net f t0 ch (fewN n net f t0 ch to n.toNat 0)) to := by
  obtain ⟨m, hm, hr⟩ := few_some hok hto h
  have key : ∀ (fuel i : Nat), i ≤ m → m < i + fuel → fewN n net f t0 ch to fuel i ≤ m ∧ 0 ≤ tg (tabK n net f t0 ch (fewN n net f t0 ch to fuel i)) to := by
    intro fuel
    induction fuel with
    | zero => intro i h1 h2; omega
    | succ fuel ih =>
      intro i h1 h2
      unfold fewN
      by_cases e : 0 ≤ tg (tabK n net f t0 ch i) to
      · rw [if_pos e]; exact ⟨h1, e⟩
      · rw [if_neg e]
        by_cases hi : i = m
        · subst hi; exact absurd hr e
        · exact ih (i + 1) (by omega) (by omega)
  have := key n.toNat 0 (Nat.zero_le _) (by omega)
  exact ⟨by omega, this.2⟩
theorem tabK_reach (hok : postOk n net f t0 ch = true) (hto : 0 ≤ to ∧ to < n) (k : Nat) : 0 ≤ tg (tabK n net f t0 ch k) to ↔ ∃ x, Rk (EdF net f ch) f t0 k to x := by
  obtain ⟨hnet, hf, ht, hc, hn⟩ := postOk_and hok
  have hT := tabK_is hok k
  have hm := hT.2 to hto.1 hto.2
  have hb := (hT.1.tg hto.1 hto.2)
  constructor
  · intro h
    have e := keyF_nn h
    exact ⟨_, hm.2.1 (by omega)⟩
  · rintro ⟨x, hx⟩
    have h1 := hm.2.2 x hx
    have hr := Rk_range (edF_ok hnet hc.1) hf.1 hf.2 (by omega : t0 < 10001) hx
    exact (keyF_le h1 (by omega)).1
theorem few_zero (hok : postOk n net f t0 ch = true) (hto : 0 ≤ to ∧ to < n) (h : 0 ≤ tg (tableL n net f t0 ch) to) : fewN n net f t0 ch to n.toNat 0 = 0 ↔ f = to := by
  obtain ⟨hnet, hf, ht, hc, hn⟩ := postOk_and hok
  have hd := fewN_does hok hto h
  have hb := fewN_before (n := n) (net := net) (f := f) (t0 := t0) (ch := ch) (to := to) n.toNat 0
  constructor
  · intro e
    rw [e] at hd
    obtain ⟨x, hx⟩ := (tabK_reach hok hto 0).1 hd.2
    exact hx.1.symm
  · intro e
    by_cases h0 : fewN n net f t0 ch to n.toNat 0 = 0
    · exact h0
    · exfalso
      exact hb.2 0 (Nat.le_refl _) (by omega) ((tabK_reach hok hto 0).2 ⟨t0, e.symm, rfl⟩)
/-- A ride without a change. -/
def Direct (net : Net) (f to t0 : Int) : Prop := ∃ a b, Hop net a b ∧ a.1 = f ∧ b.1 = to ∧ t0 ≤ a.2.2
theorem few_one (hok : postOk n net f t0 ch = true) (hto : 0 ≤ to ∧ to < n) (h : 0 ≤ tg (tableL n net f t0 ch) to) : fewN n net f t0 ch to n.toNat 0 = 1 ↔ (Direct net f to t0 ∧ f ≠ to) := by
  obtain ⟨hnet, hf, ht, hc, hn⟩ := postOk_and hok
  have hd := fewN_does hok hto h
  have hb := fewN_before (n := n) (net := net) (f := f) (t0 := t0) (ch := ch) (to := to) n.toNat 0
  have hz := few_zero hok hto h
  constructor
  · intro e
    have hne : f ≠ to := fun e2 => by have := hz.2 e2; omega
    refine ⟨?_, hne⟩
    rw [e] at hd
    obtain ⟨x, hx⟩ := (tabK_reach hok hto 1).1 hd.2
    rcases hx with hx | ⟨u, y, thr, hu, ⟨a, b, hh, rfl, rfl, rfl, rfl⟩, hy⟩
    · exact absurd hx.1.symm hne
    · obtain ⟨e1, rfl⟩ := hu
      refine ⟨a, b, hh, e1, rfl, ?_⟩
      unfold chg at hy
      rw [if_pos e1] at hy
      omega
  · rintro ⟨⟨a, b, hh, e1, rfl, hl⟩, hne⟩
    by_cases h0 : fewN n net f t0 ch b.1 n.toNat 0 = 1
    · exact h0
    · exfalso
      have h2 : fewN n net f t0 ch b.1 n.toNat 0 ≠ 0 := fun e => hne (hz.1 e)
      refine hb.2 1 (by omega) (by omega) ((tabK_reach hok hto 1).2 ⟨b.2.1, .inr ⟨a.1, t0, a.2.2 - chg f ch a.1, ⟨e1, rfl⟩, ⟨a, b, hh, rfl, rfl, rfl, rfl⟩, ?_⟩⟩)
      unfold chg
      rw [if_pos e1]
      omega
end

section
variable {n : Int} {net : Net} {f to t ch : Int}
theorem leave_case (n : Int) (net : Net) (f to t ch : Int) : leaveV n net f to t ch = -1 ∨ (postOk n net f t ch = true ∧ (0 ≤ to ∧ to < n) ∧ leaveV n net f to t ch = if f = to then t else leaveFold n net f to t ch net) := by
  unfold leaveV
  by_cases h : (postOk n net f t ch && inB to 0 (n - 1)) = true
  · rw [if_pos h]
    simp only [Bool.and_eq_true, inB, decide_eq_true_eq] at h
    exact .inr ⟨h.1, by omega, rfl⟩
  · rw [if_neg h]; exact .inl rfl
/-- The latest start is one that works, and none later does. -/
theorem leave_best (hok : postOk n net f t ch = true) (hto : 0 ≤ to ∧ to < n) (hne : f ≠ to) : (leaveFold n net f to t ch net = -1 ∨ (0 ≤ leaveFold n net f to t ch net ∧ leaveFold n net f to t ch net ≤ 10000 ∧ Works net f to ch t (leaveFold n net f to t ch net))) ∧ ∀ L, L ≤ 10000 → Works net f to ch t L → L ≤ leaveFold n net f to t ch net := by
  obtain ⟨hnet, hf, ht, hc, hn⟩ := postOk_and hok
  obtain ⟨h1, h2, h3⟩ := leave_fold hok hto net (fun _ h => h) (-1) (Int.le_refl _)
  have hw : ∀ L, L ≤ 10000 → Works net f to ch t L → L ≤ leaveFold n net f to t ch net := by
    intro L hL hw
    obtain ⟨L', hL1, hL2⟩ := works_back hnet hc.1 hne hf hto ht.1 hL hw
    obtain ⟨hw', a, b, ⟨l, hl, i, j, _, hi, _⟩, ha, hae⟩ := back_works hnet hc.1 hne hL2
    have := h3 l hl i a hi ha (by rw [hae]; exact hw')
    show L ≤ net.foldl (leaveStep n net f to t ch) (-1)
    omega
  refine ⟨?_, hw⟩
  rcases h2 with h2 | ⟨h20, h2⟩
  · exact .inl h2
  · right
    refine ⟨h20, ?_, h2⟩
    by_cases hbig : leaveFold n net f to t ch net ≤ 10000
    · exact hbig
    · exfalso
      obtain ⟨z, hz, hr⟩ := h2
      have hbig' : ¬ net.foldl (leaveStep n net f to t ch) (-1) ≤ 10000 := hbig
      have := Rr_range (B := net.foldl (leaveStep n net f to t ch) (-1) + 1) (n := n) (by
        rintro u thr v x ⟨a, b, hh, rfl, rfl, rfl, rfl⟩
        have := hop_ok hnet hh
        have := chg_nn (f := f) (v := a.1) hc.1
        omega) hf.1 hf.2 (by omega) hr
      rcases this.2.2.2 with ⟨e, _⟩ | e
      · exact hne e.symm
      · omega
/-- What arrives in time, by Works. -/
theorem arr_works (hok : postOk n net f t ch = true) {L till : Int} (hL : 0 ≤ L ∧ L ≤ 10000) (hto : 0 ≤ to ∧ to < n) (htl : till ≤ 10000) : (0 ≤ postArr n net f to L ch ∧ postArr n net f to L ch ≤ till) ↔ Works net f to ch till L := table_works hok hL hto htl
theorem arr_lo : -1 ≤ postArr n net f to t ch := by
  unfold postArr
  split
  · rename_i h
    simp only [Bool.and_eq_true, inB, decide_eq_true_eq] at h
    exact ((tab_ok h.1).tg h.2.1 (by omega)).1
  · exact Int.le_refl _
theorem works_mono {till till' L : Int} (h : Works net f to ch till L) (ht : till ≤ till') : Works net f to ch till' L := by
  obtain ⟨z, hz, hr⟩ := h
  exact ⟨z, by omega, hr⟩
theorem works_self {till L : Int} (h : L ≤ till) : Works net f f ch till L := ⟨L, h, Rr_start⟩
/-- FnPostLeave. -/
theorem leave_law (h0 : 0 ≤ leaveV n net f to t ch) :
    (0 ≤ postArr n net f to (leaveV n net f to t ch) ch ∧ postArr n net f to (leaveV n net f to t ch) ch ≤ t) ∧
    (postArr n net f to (leaveV n net f to t ch + 1) ch = -1 ∨ t < postArr n net f to (leaveV n net f to t ch + 1) ch) ∧
    (leaveV n net f to t ch ≤ leaveV n net f to (t + 5) ch ∨ 10000 < t + 5) ∧ leaveV n net f to t ch ≤ 10000 := by
  rcases leave_case n net f to t ch with e | ⟨hok, hto, e⟩
  · omega
  obtain ⟨hnet, hf, ht, hc, hn⟩ := postOk_and hok
  have hwk : leaveV n net f to t ch ≤ 10000 ∧ Works net f to ch t (leaveV n net f to t ch) ∧ ∀ L, L ≤ 10000 → Works net f to ch t L → L ≤ leaveV n net f to t ch := by
    by_cases hne : f = to
    · rw [if_pos hne] at e
      rw [e]
      subst hne
      refine ⟨ht.2, works_self (Int.le_refl _), ?_⟩
      rintro L hL ⟨z, hz, hr⟩
      have := Rr_range (edF_ok hnet hc.1) hf.1 hf.2 (by omega : L < 10001) hr
      omega
    · rw [if_neg hne] at e
      rw [e] at h0 ⊢
      obtain ⟨hb1, hb2⟩ := leave_best hok hto hne
      rcases hb1 with hb1 | ⟨_, hb1, hb3⟩
      · omega
      · exact ⟨hb1, hb3, hb2⟩
  obtain ⟨hle, hw, hmax⟩ := hwk
  refine ⟨(arr_works hok ⟨h0, hle⟩ hto ht.2).2 hw, ?_, ?_, hle⟩
  · by_cases hx : postArr n net f to (leaveV n net f to t ch + 1) ch = -1
    · exact .inl hx
    · right
      have hlo := arr_lo (n := n) (net := net) (f := f) (to := to) (t := leaveV n net f to t ch + 1) (ch := ch)
      by_cases hgt : t < postArr n net f to (leaveV n net f to t ch + 1) ch
      · exact hgt
      · exfalso
        have hL : leaveV n net f to t ch + 1 ≤ 10000 := by
          by_cases hL : leaveV n net f to t ch + 1 ≤ 10000
          · exact hL
          · exfalso; apply hx
            unfold postArr
            rw [if_neg]
            simp only [postOk, Bool.and_eq_true, inB, decide_eq_true_eq]
            omega
        have := hmax _ hL ((arr_works hok ⟨by omega, hL⟩ hto ht.2).1 ⟨by omega, by omega⟩)
        omega
  · by_cases h5 : 10000 < t + 5
    · exact .inr h5
    · left
      have hok5 : postOk n net f (t + 5) ch = true := by
        simp only [postOk, Bool.and_eq_true, inB, decide_eq_true_eq] at hok ⊢
        exact ⟨⟨hok.1.1, by omega⟩, hok.2⟩
      have e5 : leaveV n net f to (t + 5) ch = if f = to then t + 5 else leaveFold n net f to (t + 5) ch net := by
        unfold leaveV
        rw [if_pos]
        simp only [Bool.and_eq_true, inB, decide_eq_true_eq]
        exact ⟨hok5, by omega⟩
      by_cases hne : f = to
      · rw [if_pos hne] at e e5; omega
      · rw [if_neg hne] at e5
        rw [e5]
        exact (leave_best hok5 hto hne).2 _ hle (works_mono hw (by omega))
end

/-- A coach goes there without a change. -/
def dirL (n f to t0 : Int) (l : List T3) : Bool := decide (0 ≤ stopsAt n l f ∧ stopsAt n l f < stopsAt n l to ∧ t0 ≤ (l.getD (stopsAt n l f).toNat (0, 0, 0)).2.2)
theorem stopsAt_nn {n : Int} {l : List T3} {t : Int} (h : 0 ≤ stopsAt n l t) : stopsB n l = true ∧ ∃ (j : Nat) (hj : j < l.length), stopsAt n l t = j ∧ l[j].1 = t := by
  unfold stopsAt at h ⊢
  by_cases hs : stopsB n l = true
  · rw [if_pos hs] at h ⊢
    rcases atFrom_ge t 0 l with e | ⟨j, hj, e, ht⟩
    · have e' : atL t l = -1 := e
      omega
    · exact ⟨hs, j, hj, by rw [atL, e]; simp, ht⟩
  · rw [if_neg hs] at h; omega
theorem stopsAt_at {n : Int} {l : List T3} (hs : stopsB n l = true) {i : Nat} {a : T3} (hi : l[i]? = some a) : stopsAt n l a.1 = i := by
  unfold stopsAt; rw [if_pos hs]; exact atL_at hs hi
theorem dirL_iff {n f to t0 : Int} {l : List T3} (hs : stopsB n l = true) : dirL n f to t0 l = true ↔ ∃ (i j : Nat) (a b : T3), i < j ∧ l[i]? = some a ∧ l[j]? = some b ∧ a.1 = f ∧ b.1 = to ∧ t0 ≤ a.2.2 := by
  unfold dirL
  rw [decide_eq_true_eq]
  constructor
  · rintro ⟨h0, h1, h2⟩
    obtain ⟨_, i, hi, e1, e2⟩ := stopsAt_nn h0
    obtain ⟨_, j, hj, e3, e4⟩ := stopsAt_nn (n := n) (l := l) (t := to) (by omega)
    rw [e1, Int.toNat_natCast, List.getD_eq_getElem?_getD, List.getElem?_eq_getElem hi] at h2
    exact ⟨i, j, l[i], l[j], by omega, List.getElem?_eq_getElem hi, List.getElem?_eq_getElem hj, e2, e4, h2⟩
  · rintro ⟨i, j, a, b, hij, hi, hj, rfl, rfl, h⟩
    rw [stopsAt_at hs hi, stopsAt_at hs hj, Int.toNat_natCast, List.getD_eq_getElem?_getD, hi]
    exact ⟨by omega, by omega, h⟩
theorem direct_any {n f to t0 : Int} {net : Net} (hnet : netB n net = true) : net.any (dirL n f to t0) = true ↔ Direct net f to t0 := by
  rw [List.any_eq_true]
  constructor
  · rintro ⟨l, hl, h⟩
    obtain ⟨i, j, a, b, hij, hi, hj, e1, e2, h⟩ := (dirL_iff (netB_mem hnet hl)).1 h
    exact ⟨a, b, ⟨l, hl, i, j, hij, hi, hj⟩, e1, e2, h⟩
  · rintro ⟨a, b, ⟨l, hl, i, j, hij, hi, hj⟩, e1, e2, h⟩
    exact ⟨l, hl, (dirL_iff (netB_mem hnet hl)).2 ⟨i, j, a, b, hij, hi, hj, e1, e2, h⟩⟩
theorem any_take_succ {l : Net} {p : List T3 → Bool} {k : Nat} (h : k < l.length) : (l.take (k + 1)).any p = ((l.take k).any p || p l[k]) := by
  rw [List.take_succ_eq_append_getElem h, List.any_append]; simp
/-- FnPostFewest. -/
theorem few_law {n : Int} {net : Net} {f to t0 ch : Int} (h0 : 0 ≤ fewV n net f to t0 ch) :
    (fewV n net f to t0 ch = 0 ↔ f = to) ∧ fewV n net f to t0 ch < n ∧ (fewV n net f to t0 ch = 1 ↔ (net.any (dirL n f to t0) = true ∧ f ≠ to)) ∧ 0 ≤ postArr n net f to t0 ch := by
  rcases few_case n net f to t0 ch with e | ⟨hok, hto, ht, e⟩
  · omega
  have h1 := few_zero hok hto ht
  have h2 := fewN_does hok hto ht
  have h3 := few_one hok hto ht
  rw [direct_any (postOk_and hok).1]
  rw [e]
  refine ⟨by rw [← h1]; omega, by omega, by rw [← h3]; omega, ?_⟩
  unfold postArr
  rw [if_pos]
  · exact ht
  · simp only [Bool.and_eq_true, inB, decide_eq_true_eq]; exact ⟨hok, by omega⟩

end Go.Proofs.Ytdiichfdffhdaaa
