/-
  Plain laws on the tables of the post: what is reached, sooner starts, shorter changes, further coaches, one ride.
-/
import Derived.Test.YtdiichfdffhdaaaPostR
namespace Go.Proofs.Ytdiichfdffhdaaa

section
variable {n : Int} {net net' : Net} {f t0 t1 ch ch' : Int}
theorem tab_ok (h : postOk n net f t0 ch = true) : TabOk n (tableL n net f t0 ch) := (tableL_is h).1
/-- What an entry says, and that every arrival is noted. -/
theorem tab_snd (h : postOk n net f t0 ch = true) {v : Int} (h0 : 0 ≤ v) (h1 : v < n) (ht : 0 ≤ tg (tableL n net f t0 ch) v) : Rr (EdF net f ch) f t0 v (tg (tableL n net f t0 ch) v) := by
  have hm := (tableL_is h).2 v h0 h1
  have hb := (tab_ok h).tg h0 h1
  have hk := keyF_nn ht
  have := hm.2.1 (by rw [hk]; omega)
  rwa [hk] at this
theorem post_range (h : postOk n net f t0 ch = true) {v x : Int} (hr : Rr (EdF net f ch) f t0 v x) : 0 ≤ v ∧ v < n ∧ x < 10001 ∧ (v = f ∧ x = t0 ∨ t0 < x) := by
  obtain ⟨hn, hf, ht, hc, _⟩ := postOk_and h
  exact Rr_range (edF_ok hn hc.1) hf.1 hf.2 (by omega) hr
theorem tab_cpl (h : postOk n net f t0 ch = true) {v x : Int} (hr : Rr (EdF net f ch) f t0 v x) : 0 ≤ tg (tableL n net f t0 ch) v ∧ tg (tableL n net f t0 ch) v ≤ x := by
  obtain ⟨h0, h1, h2, _⟩ := post_range h hr
  exact keyF_le (((tableL_is h).2 v h0 h1).2.2 x hr) (by omega)
theorem tab_ge (h : postOk n net f t0 ch = true) {v : Int} (h0 : 0 ≤ v) (h1 : v < n) (ht : 0 ≤ tg (tableL n net f t0 ch) v) : t0 ≤ tg (tableL n net f t0 ch) v ∧ (tg (tableL n net f t0 ch) v = t0 → v = f) := by
  obtain ⟨_, _, _, h3⟩ := post_range h (tab_snd h h0 h1 ht)
  rcases h3 with ⟨e, h3⟩ | h3
  · exact ⟨by omega, fun _ => e⟩
  · exact ⟨by omega, fun e => by omega⟩
theorem tab_from (h : postOk n net f t0 ch = true) : tg (tableL n net f t0 ch) f = t0 := by
  obtain ⟨_, hf, _, _, _⟩ := postOk_and h
  have h1 := tab_cpl h (Rr_start (Ed := EdF net f ch) (f := f) (t0 := t0))
  have h2 := (tab_ge h hf.1 hf.2 h1.1).1
  omega
/-- More coaches, shorter changes, a sooner start: no town is reached later. -/
theorem Rr_mono (hsub : ∀ l ∈ net, l ∈ net') (ht : t1 ≤ t0) (hc0 : 0 ≤ ch') (hc : ch' ≤ ch) {v x : Int} (hr : Rr (EdF net f ch) f t0 v x) : ∃ x', x' ≤ x ∧ Rr (EdF net' f ch') f t1 v x' := by
  refine Rr_ind (Q := fun v x => ∃ x', x' ≤ x ∧ Rr (EdF net' f ch') f t1 v x') ⟨t1, ht, Rr_start⟩ ?_ hr
  rintro u y thr v x _ ⟨y', hy', hq⟩ ⟨a, b, ⟨l, hl, i, j, hij, hi, hj⟩, rfl, rfl, rfl, rfl⟩ hy
  refine ⟨b.2.1, Int.le_refl _, Rr_step hq ⟨a, b, ⟨l, hsub l hl, i, j, hij, hi, hj⟩, rfl, rfl, rfl, rfl⟩ ?_⟩
  have : chg f ch' a.1 ≤ chg f ch a.1 := by unfold chg; split <;> omega
  omega
theorem tab_mono (h : postOk n net f t0 ch = true) (h' : postOk n net' f t1 ch' = true) (hsub : ∀ l ∈ net, l ∈ net') (ht : t1 ≤ t0) (hc : ch' ≤ ch) {v : Int} (h0 : 0 ≤ v) (h1 : v < n) (hv : 0 ≤ tg (tableL n net f t0 ch) v) :
    0 ≤ tg (tableL n net' f t1 ch') v ∧ tg (tableL n net' f t1 ch') v ≤ tg (tableL n net f t0 ch) v := by
  obtain ⟨_, _, _, hc', _⟩ := postOk_and h'
  obtain ⟨x', hx, hr⟩ := Rr_mono hsub ht hc'.1 hc (tab_snd h h0 h1 hv)
  have := tab_cpl h' hr
  omega
/-- A ride from the town where it begins. -/
theorem tab_one (h : postOk n net f t0 ch = true) {l : List T3} (hl : l ∈ net) {i j : Nat} {a b : T3} (hij : i < j) (hi : l[i]? = some a) (hj : l[j]? = some b) (ha : a.1 = f) (hta : t0 ≤ a.2.2) : 0 ≤ tg (tableL n net f t0 ch) b.1 ∧ tg (tableL n net f t0 ch) b.1 ≤ b.2.1 := by
  refine tab_cpl h (Rr_step (u := f) (thr := a.2.2) Rr_start ⟨a, b, ⟨l, hl, i, j, hij, hi, hj⟩, ha.symm, ?_, rfl, rfl⟩ hta)
  rw [ha]; simp [chg]
/-- PostReach. -/
theorem reach_mem (h : postOk n net f t0 ch = true) {u v : Int} : v ∈ reachL n net f t0 ch u ↔ 0 ≤ v ∧ v < n ∧ 0 ≤ tg (tableL n net f t0 ch) v ∧ tg (tableL n net f t0 ch) v ≤ u := by
  have e : postTab n net f t0 ch = tableL n net f t0 ch := by simp [postTab, h]
  have hlen := (tab_ok h).1
  unfold reachL reachTo
  rw [e]
  simp only [List.mem_map, List.mem_filter, List.mem_range, inTill, Bool.and_eq_true, decide_eq_true_eq]
  constructor
  · rintro ⟨k, ⟨hk, h1, h2⟩, rfl⟩
    have et : tg (tableL n net f t0 ch) (k : Int) = (tableL n net f t0 ch).getD k (-1) := by
      unfold tg; rw [if_neg (by omega)]; rfl
    rw [et]
    exact ⟨by omega, by omega, h1, h2⟩
  · rintro ⟨h0, h1, h2, h3⟩
    have et : tg (tableL n net f t0 ch) v = (tableL n net f t0 ch).getD v.toNat (-1) := by
      unfold tg; rw [if_neg (by omega)]
    rw [et] at h2 h3
    exact ⟨v.toNat, ⟨by omega, h2, h3⟩, by omega⟩
theorem reach_some (h : postOk n net f t0 ch = true) {u : Int} (hne : reachL n net f t0 ch u ≠ []) : f ∈ reachL n net f t0 ch u := by
  obtain ⟨v, hv⟩ := List.exists_mem_of_ne_nil _ hne
  obtain ⟨h0, h1, h2, h3⟩ := (reach_mem h).1 hv
  obtain ⟨_, hf, ht, _, _⟩ := postOk_and h
  have := (tab_ge h h0 h1 h2).1
  refine (reach_mem h).2 ⟨hf.1, hf.2, ?_, ?_⟩ <;> rw [tab_from h] <;> omega
theorem reachL_len {u : Int} : (reachL n net f t0 ch u).length ≤ 8 := by
  unfold reachL reachTo
  have h1 := (postTab_len (n := n) (net := net) (f := f) (t0 := t0) (ch := ch)).1
  rw [List.length_map]
  refine Nat.le_trans (List.length_filter_le _ _) ?_
  rw [List.length_range]; exact h1
theorem reachL_no (h : postOk n net f t0 ch = false) {u : Int} : reachL n net f t0 ch u = [] := by
  unfold reachL reachTo; simp [postTab, h]
end

end Go.Proofs.Ytdiichfdffhdaaa
