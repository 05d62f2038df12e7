/-
  Plain words on tables of least numbers: what edges with thresholds reach, what a search that spreads leaves, and that there is one such table.
-/
import Derived.Test.YtdiichfdffhdaaaBase
namespace Go.Proofs.Ytdiichfdffhdaaa

section
variable (Ed : Int → Int → Int → Int → Prop) (f t0 : Int)
/-- Reached with at most k steps: an edge (u, thr, v, x) can be taken by whoever is at u with thr or less, and leads to v with x. -/
def Rk : Nat → Int → Int → Prop
  | 0, v, x => v = f ∧ x = t0
  | k + 1, v, x => Rk k v x ∨ ∃ u y thr, Rk k u y ∧ Ed u thr v x ∧ y ≤ thr
def Rr (v x : Int) : Prop := ∃ k, Rk Ed f t0 k v x
def EdOk (n B : Int) : Prop := ∀ u thr v x, Ed u thr v x → 0 ≤ u ∧ u < n ∧ 0 ≤ v ∧ v < n ∧ thr < x ∧ x < B
def ClosedAt (κ : Int → Int) (v : Int) : Prop := ∀ thr w x, Ed v thr w x → κ v ≤ thr → κ w ≤ x
end
def IsMin (n B : Int) (P : Int → Int → Prop) (κ : Int → Int) : Prop :=
  ∀ v, 0 ≤ v → v < n → κ v ≤ B ∧ (κ v < B → P v (κ v)) ∧ ∀ x, P v x → κ v ≤ x
section
variable {Ed : Int → Int → Int → Int → Prop} {f t0 n B : Int} {κ κ' : Int → Int} {P : Int → Int → Prop}
theorem IsMin.eq (h : IsMin n B P κ) (h' : IsMin n B P κ') (v : Int) (h0 : 0 ≤ v) (h1 : v < n) : κ v = κ' v := by
  obtain ⟨a1, a2, a3⟩ := h v h0 h1
  obtain ⟨b1, b2, b3⟩ := h' v h0 h1
  have e1 : κ' v ≤ κ v := by
    by_cases hk : κ v < B
    · exact b3 _ (a2 hk)
    · omega
  have e2 : κ v ≤ κ' v := by
    by_cases hk : κ' v < B
    · exact a3 _ (b2 hk)
    · omega
  omega
theorem isMin_ex (n B : Int) (hP : ∀ v x, P v x → 0 ≤ x) : ∃ κ, IsMin n B P κ := by
  have key : ∀ v, ∃ d, d ≤ B ∧ (d < B → P v d) ∧ ∀ x, P v x → d ≤ x := by
    intro v
    by_cases hx : ∃ x, P v x ∧ x < B
    · obtain ⟨x, hx, hB⟩ := hx
      have : ∀ N : Nat, ∀ x, P v x → x < B → x.toNat ≤ N → ∃ d, d ≤ B ∧ (d < B → P v d) ∧ ∀ x, P v x → d ≤ x := by
        intro N
        induction N with
        | zero =>
          intro x hx hB hN
          have h0 := hP v x hx
          have hx0 : x = 0 := by omega
          subst hx0
          exact ⟨0, by omega, fun _ => hx, fun y hy => hP v y hy⟩
        | succ N ih =>
          intro x hx hB hN
          by_cases hy : ∃ y, P v y ∧ y < x
          · obtain ⟨y, hy, hyx⟩ := hy
            have := hP v y hy
            have := hP v x hx
            exact ih y hy (by omega) (by omega)
          · refine ⟨x, by omega, fun _ => hx, fun y hy' => ?_⟩
            by_cases hyx : y < x
            · exact absurd ⟨y, hy', hyx⟩ hy
            · omega
      exact this x.toNat x hx hB (Nat.le_refl _)
    · refine ⟨B, Int.le_refl _, fun h => absurd h (by omega), fun x hP' => ?_⟩
      by_cases hxB : x < B
      · exact absurd ⟨x, hP', hxB⟩ hx
      · omega
  obtain ⟨κ, hκ⟩ := Classical.skolem.1 key
  exact ⟨κ, fun v _ _ => hκ v⟩
theorem Rk_mono {k m : Nat} (h : k ≤ m) {v x : Int} (hr : Rk Ed f t0 k v x) : Rk Ed f t0 m v x := by
  induction m with
  | zero => have : k = 0 := by omega
            subst this; exact hr
  | succ m ih =>
    by_cases hk : k = m + 1
    · subst hk; exact hr
    · exact .inl (ih (by omega))
theorem Rk_range (ok : EdOk Ed n B) (h0 : 0 ≤ f) (h1 : f < n) (hB : t0 < B) {k : Nat} {v x : Int} (hr : Rk Ed f t0 k v x) : 0 ≤ v ∧ v < n ∧ x < B ∧ (v = f ∧ x = t0 ∨ t0 < x) := by
  induction k generalizing v x with
  | zero => obtain ⟨rfl, rfl⟩ := hr; exact ⟨h0, h1, hB, .inl ⟨rfl, rfl⟩⟩
  | succ k ih =>
    rcases hr with hr | ⟨u, y, thr, hr, he, hy⟩
    · exact ih hr
    · obtain ⟨_, _, _, h4⟩ := ih hr
      have := ok _ _ _ _ he
      refine ⟨by omega, by omega, by omega, .inr ?_⟩
      rcases h4 with ⟨_, rfl⟩ | h4 <;> omega
theorem Rr_range (ok : EdOk Ed n B) (h0 : 0 ≤ f) (h1 : f < n) (hB : t0 < B) {v x : Int} (hr : Rr Ed f t0 v x) : 0 ≤ v ∧ v < n ∧ x < B ∧ (v = f ∧ x = t0 ∨ t0 < x) := by
  obtain ⟨k, hr⟩ := hr; exact Rk_range ok h0 h1 hB hr
theorem Rr_start : Rr Ed f t0 f t0 := ⟨0, rfl, rfl⟩
theorem Rr_step {u y thr v x : Int} (h : Rr Ed f t0 u y) (he : Ed u thr v x) (hy : y ≤ thr) : Rr Ed f t0 v x := by
  obtain ⟨k, hk⟩ := h; exact ⟨k + 1, .inr ⟨u, y, thr, hk, he, hy⟩⟩
theorem Rr_ind {Q : Int → Int → Prop} (h0 : Q f t0) (hs : ∀ u y thr v x, Rr Ed f t0 u y → Q u y → Ed u thr v x → y ≤ thr → Q v x) {v x : Int} (h : Rr Ed f t0 v x) : Q v x := by
  obtain ⟨k, h⟩ := h
  induction k generalizing v x with
  | zero => obtain ⟨rfl, rfl⟩ := h; exact h0
  | succ k ih =>
    rcases h with h | ⟨u, y, thr, h, he, hy⟩
    · exact ih h
    · exact hs u y thr v x ⟨k, h⟩ (ih h) he hy
theorem Rr_last {v x : Int} (h : Rr Ed f t0 v x) : (v = f ∧ x = t0) ∨ ∃ u y thr, Rr Ed f t0 u y ∧ Ed u thr v x ∧ y ≤ thr :=
  Rr_ind (Q := fun v x => (v = f ∧ x = t0) ∨ ∃ u y thr, Rr Ed f t0 u y ∧ Ed u thr v x ∧ y ≤ thr) (.inl ⟨rfl, rfl⟩) (fun u y thr _ _ h _ he hy => .inr ⟨u, y, thr, h, he, hy⟩) h
/-- A table that is sound and closed is the least one. -/
theorem least_closed (hle : ∀ v, 0 ≤ v → v < n → κ v ≤ B) (hs : ∀ v, 0 ≤ v → v < n → κ v < B → Rr Ed f t0 v (κ v)) (hf : κ f ≤ t0) (hc : ∀ u, 0 ≤ u → u < n → ClosedAt Ed κ u) (ok : EdOk Ed n B) : IsMin n B (Rr Ed f t0) κ :=
  fun v h0 h1 => ⟨hle v h0 h1, hs v h0 h1, fun x hx => Rr_ind (Q := fun v x => κ v ≤ x) hf (fun u y thr v x _ hq he hy => by
    have := ok _ _ _ _ he
    exact hc u (by omega) (by omega) thr v x he (by omega)) hx⟩
theorem count_lt {l : List Nat} {p q : Nat → Bool} (h : ∀ a, p a = true → q a = true) {u : Nat} (hu : u ∈ l) (hq : q u = true) (hp : p u = false) : l.countP p < l.countP q := by
  induction l with
  | nil => simp at hu
  | cons a r ih =>
    have hle : ∀ l : List Nat, l.countP p ≤ l.countP q := fun l => List.countP_mono_left fun a _ => h a
    rcases List.mem_cons.1 hu with rfl | hu
    · rw [List.countP_cons_of_pos hq, List.countP_cons_of_neg (by simp [hp])]
      have := hle r; omega
    · have := ih hu
      by_cases ha : p a = true
      · rw [List.countP_cons_of_pos ha, List.countP_cons_of_pos (h a ha)]; omega
      · rw [List.countP_cons_of_neg ha]
        have h2 : r.countP q ≤ (a :: r).countP q := by rw [List.countP_cons]; omega
        omega
def rank (n : Int) (D : Int → Int) (v : Int) : Nat := (List.range n.toNat).countP fun w => decide (D (w : Nat) < D v)
theorem rank_lt {D : Int → Int} {u v : Int} (h0 : 0 ≤ u) (h1 : u < n) (h : D u < D v) : rank n D u < rank n D v := by
  refine count_lt (u := u.toNat) (fun a ha => ?_) (by rw [List.mem_range]; omega) ?_ ?_
  · have := of_decide_eq_true ha
    exact decide_eq_true (by omega)
  · rw [Int.toNat_of_nonneg h0]; exact decide_eq_true h
  · rw [Int.toNat_of_nonneg h0]; exact decide_eq_false (by omega)
theorem rank_le {D : Int → Int} {v : Int} (h0 : 0 ≤ v) (h1 : v < n) : rank n D v + 1 ≤ n.toNat := by
  have h := count_lt (l := List.range n.toNat) (p := fun w => decide (D (w : Nat) < D v)) (q := fun _ => true) (u := v.toNat) (fun _ _ => rfl) (by rw [List.mem_range]; omega) rfl (by
    rw [Int.toNat_of_nonneg h0]; exact decide_eq_false (by omega))
  have e : (List.range n.toNat).countP (fun _ => true) = n.toNat := by simp
  rw [e] at h
  exact h
theorem rank_reach {D : Int → Int} (ok : EdOk Ed n B) (h0 : 0 ≤ f) (h1 : f < n) (hT : 0 ≤ t0) (hB : t0 < B) (hD : IsMin n B (Rr Ed f t0) D) (N : Nat) (v : Int) (hv0 : 0 ≤ v) (hv1 : v < n) (hN : (D v).toNat < N) (hvB : D v < B) : Rk Ed f t0 (rank n D v) v (D v) := by
  induction N generalizing v with
  | zero => omega
  | succ N ih =>
    have hr := (hD v hv0 hv1).2.1 hvB
    rcases Rr_last hr with ⟨e1, e2⟩ | ⟨u, y, thr, hu, he, hy⟩
    · exact Rk_mono (Nat.zero_le _) (show Rk Ed f t0 0 v (D v) from ⟨e1, e2⟩)
    · have ho := ok _ _ _ _ he
      have hdu := (hD u (by omega) (by omega)).2.2 y hu
      have hu2 := (hD u (by omega) (by omega)).2.1 (by omega)
      have hur := Rr_range ok h0 h1 hB hu2
      have hk := ih u (by omega) (by omega) (by omega) (by omega)
      have hlt := rank_lt (n := n) (D := D) (u := u) (v := v) (by omega) (by omega) (by omega)
      exact Rk_mono hlt (show Rk Ed f t0 (rank n D u + 1) v (D v) from .inr ⟨u, D u, thr, hk, he, by omega⟩)
/-- n - 1 steps are enough. -/
theorem least_fast (ok : EdOk Ed n B) (h0 : 0 ≤ f) (h1 : f < n) (hT : 0 ≤ t0) (hB : t0 < B) {k : Nat} (hk : n.toNat ≤ k + 1) {v x : Int} (hr : Rr Ed f t0 v x) : ∃ y, y ≤ x ∧ Rk Ed f t0 k v y := by
  obtain ⟨D, hD⟩ := isMin_ex (P := Rr Ed f t0) n B (fun v x h => by have := Rr_range ok h0 h1 hB h; omega)
  have hv := Rr_range ok h0 h1 hB hr
  have hle := (hD v hv.1 hv.2.1).2.2 x hr
  have h := rank_reach ok h0 h1 hT hB hD _ v hv.1 hv.2.1 (Nat.lt_succ_self _) (by omega)
  have hrk := rank_le (n := n) (D := D) hv.1 hv.2.1
  exact ⟨D v, hle, Rk_mono (by omega) h⟩
theorem least_rounds (ok : EdOk Ed n B) (h0 : 0 ≤ f) (h1 : f < n) (hT : 0 ≤ t0) (hB : t0 < B) {k : Nat} (hk : n.toNat ≤ k + 1) (hle : ∀ v, 0 ≤ v → v < n → κ v ≤ B) (hs : ∀ v, 0 ≤ v → v < n → κ v < B → Rr Ed f t0 v (κ v))
    (hc : ∀ v x, Rk Ed f t0 k v x → κ v ≤ x) : IsMin n B (Rr Ed f t0) κ := fun v hv0 hv1 => ⟨hle v hv0 hv1, hs v hv0 hv1, fun x hx => by
  obtain ⟨y, hy, hr⟩ := least_fast ok h0 h1 hT hB hk hx
  have := hc v y hr
  omega⟩

/-- What a search from u leaves. -/
def Spr (Ed : Int → Int → Int → Int → Prop) (f t0 n B : Int) (κ : Int → Int) (u : Int) (κ' : Int → Int) : Prop :=
  (∀ v, 0 ≤ v → v < n → κ' v ≤ κ v) ∧ (∀ v, 0 ≤ v → v < n → κ' v < B → Rr Ed f t0 v (κ' v)) ∧ (∀ v, 0 ≤ v → v < n → κ' v = κ v ∨ κ u < κ' v) ∧ (∀ v, 0 ≤ v → v < n → (κ' v ≠ κ v ∨ v = u) → ClosedAt Ed κ' v)
/-- In the middle of it: some edges out of u have been looked at. -/
def Mid (Ed : Int → Int → Int → Int → Prop) (f t0 n B : Int) (κ : Int → Int) (u : Int) (done : Int → Int → Int → Prop) (κ' : Int → Int) : Prop :=
  (∀ v, 0 ≤ v → v < n → κ' v ≤ κ v) ∧ (∀ v, 0 ≤ v → v < n → κ' v < B → Rr Ed f t0 v (κ' v)) ∧ (∀ v, 0 ≤ v → v < n → κ' v = κ v ∨ κ u < κ' v) ∧ (∀ v, 0 ≤ v → v < n → κ' v ≠ κ v → ClosedAt Ed κ' v) ∧ (∀ thr w x, done thr w x → 0 ≤ w → w < n → κ u ≤ thr → κ' w ≤ x)
def put (κ : Int → Int) (w x : Int) : Int → Int := fun v => if v = w then x else κ v
def Sound (Ed : Int → Int → Int → Int → Prop) (f t0 n B : Int) (κ : Int → Int) : Prop := ∀ v, 0 ≤ v → v < n → κ v < B → Rr Ed f t0 v (κ v)
theorem mid_start {u : Int} (hs : Sound Ed f t0 n B κ) : Mid Ed f t0 n B κ u (fun _ _ _ => False) κ :=
  ⟨fun _ _ _ => Int.le_refl _, hs, fun _ _ _ => .inl rfl, fun _ _ _ h => absurd rfl h, fun _ _ _ h => h.elim⟩
theorem mid_keep {u : Int} {done done' : Int → Int → Int → Prop} (h : Mid Ed f t0 n B κ u done κ') (hd : ∀ thr w x, done' thr w x → done thr w x ∨ (0 ≤ w → w < n → κ u ≤ thr → κ' w ≤ x)) : Mid Ed f t0 n B κ u done' κ' :=
  ⟨h.1, h.2.1, h.2.2.1, h.2.2.2.1, fun thr w x hx g0 g1 hy => (hd thr w x hx).elim (fun h' => h.2.2.2.2 thr w x h' g0 g1 hy) (fun h' => h' g0 g1 hy)⟩
theorem mid_u {u : Int} {done : Int → Int → Int → Prop} (h : Mid Ed f t0 n B κ u done κ') (h0 : 0 ≤ u) (h1 : u < n) : κ' u = κ u := by
  have h2 := h.1 u h0 h1
  rcases h.2.2.1 u h0 h1 with h3 | h3 <;> omega
theorem put_sound {u thr w x : Int} {done : Int → Int → Int → Prop} (ok : EdOk Ed n B) (h : Mid Ed f t0 n B κ u done κ') (he : Ed u thr w x) (hy : κ u ≤ thr) : Sound Ed f t0 n B (put κ' w x) := by
  have ho := ok _ _ _ _ he
  have hu := mid_u h ho.1 ho.2.1
  intro v h0 h1 hv
  unfold put at *
  by_cases hvw : v = w
  · subst hvw
    rw [if_pos rfl]
    have hr := h.2.1 u ho.1 ho.2.1 (by omega)
    exact Rr_step hr he (by omega)
  · rw [if_neg hvw] at hv ⊢
    exact h.2.1 v h0 h1 hv
theorem mid_step {u thr w x : Int} {done done' : Int → Int → Int → Prop} {κ2 : Int → Int} (ok : EdOk Ed n B) (h : Mid Ed f t0 n B κ u done κ') (he : Ed u thr w x) (hy : κ u ≤ thr) (hlt : x < κ' w) (hsp : Spr Ed f t0 n B (put κ' w x) w κ2)
    (hd : ∀ thr' w' x', done' thr' w' x' → done thr' w' x' ∨ (w' = w ∧ x' = x)) : Mid Ed f t0 n B κ u done' κ2 := by
  have ho := ok _ _ _ _ he
  obtain ⟨s1, s2, s3, s4⟩ := hsp
  have hw : put κ' w x w = x := by simp [put]
  have ho' : ∀ v, v ≠ w → put κ' w x v = κ' v := fun v hv => by simp [put, hv]
  have hle : ∀ v, 0 ≤ v → v < n → κ2 v ≤ κ' v := by
    intro v h0 h1
    have := s1 v h0 h1
    by_cases hv : v = w
    · subst hv; rw [hw] at this; omega
    · rw [ho' v hv] at this; exact this
  refine ⟨fun v h0 h1 => Int.le_trans (hle v h0 h1) (h.1 v h0 h1), s2, ?_, ?_, ?_⟩
  · intro v h0 h1
    rcases s3 v h0 h1 with e | e
    · by_cases hv : v = w
      · subst hv; rw [hw] at e; exact .inr (by omega)
      · rw [ho' v hv] at e; rw [e]; exact h.2.2.1 v h0 h1
    · rw [hw] at e; exact .inr (by omega)
  · intro v h0 h1 hne
    by_cases hc : κ2 v ≠ put κ' w x v ∨ v = w
    · exact s4 v h0 h1 hc
    · have hv : v ≠ w := fun e => hc (.inr e)
      have e : κ2 v = κ' v := by
        have := not_or.1 hc
        have := Decidable.not_not.1 this.1
        rw [this, ho' v hv]
      intro thr' w' x' he' hy'
      have := ok _ _ _ _ he'
      have h5 := h.2.2.2.1 v h0 h1 (by rw [← e]; exact hne) thr' w' x' he' (by rw [← e]; exact hy')
      have := hle w' (by omega) (by omega)
      omega
  · intro thr' w' x' hd' g0 g1 hy'
    rcases hd thr' w' x' hd' with hd' | ⟨rfl, rfl⟩
    · have h5 := h.2.2.2.2 thr' w' x' hd' g0 g1 hy'
      have := hle w' g0 g1; omega
    · have := s1 w' ho.2.2.1 ho.2.2.2.1
      rw [hw] at this; exact this
theorem mid_end {u : Int} {done : Int → Int → Int → Prop} (ok : EdOk Ed n B) (h : Mid Ed f t0 n B κ u done κ') (h0 : 0 ≤ u) (h1 : u < n) (hd : ∀ thr w x, Ed u thr w x → done thr w x) : Spr Ed f t0 n B κ u κ' := by
  refine ⟨h.1, h.2.1, h.2.2.1, fun v hv0 hv1 hv => ?_⟩
  by_cases e : v = u
  · subst e
    intro thr w x he hy
    rw [mid_u h h0 h1] at hy
    have := ok _ _ _ _ he
    exact h.2.2.2.2 thr w x (hd thr w x he) (by omega) (by omega) hy
  · exact h.2.2.2.1 v hv0 hv1 (hv.resolve_right e)
/-- A search from the start over the empty table leaves the least table. -/
theorem spr_least (ok : EdOk Ed n B) (h0 : 0 ≤ f) (h1 : f < n) (hf : κ f = t0) (hB : ∀ v, 0 ≤ v → v < n → v ≠ f → κ v = B) (htB : t0 < B) (h : Spr Ed f t0 n B κ f κ') : IsMin n B (Rr Ed f t0) κ' := by
  refine least_closed (fun v hv0 hv1 => ?_) h.2.1 ?_ (fun v hv0 hv1 => ?_) ok
  · have := h.1 v hv0 hv1
    by_cases e : v = f
    · subst e; omega
    · have := hB v hv0 hv1 e; omega
  · have := h.1 f h0 h1; omega
  · by_cases hc : κ' v ≠ κ v ∨ v = f
    · exact h.2.2.2 v hv0 hv1 hc
    · have e : κ' v = κ v := Decidable.not_not.1 (not_or.1 hc).1
      have := hB v hv0 hv1 (not_or.1 hc).2
      intro thr w x he hy
      have := ok _ _ _ _ he
      omega
/-- What is left to lower. -/
def phi (n : Int) (κ : Int → Int) : Nat := ((List.range n.toNat).map fun i => (κ (i : Nat)).toNat).sum
theorem sum_le {α : Type} (l : List α) (g h : α → Nat) (hle : ∀ a ∈ l, g a ≤ h a) : (l.map g).sum ≤ (l.map h).sum := by
  induction l with
  | nil => simp
  | cons a r ih =>
    have := hle a (by simp)
    have := ih fun b hb => hle b (by simp [hb])
    simp only [List.map_cons, List.sum_cons]; omega
theorem sum_lt {α : Type} (l : List α) (g h : α → Nat) (hle : ∀ a ∈ l, g a ≤ h a) (u : α) (hu : u ∈ l) (hlt : g u < h u) : (l.map g).sum < (l.map h).sum := by
  induction l with
  | nil => simp at hu
  | cons a r ih =>
    have h1 := hle a (by simp)
    have h2 := sum_le r g h fun b hb => hle b (by simp [hb])
    simp only [List.map_cons, List.sum_cons]
    rcases List.mem_cons.1 hu with rfl | hu
    · omega
    · have := ih (fun b hb => hle b (by simp [hb])) hu
      omega
theorem phi_le (h : ∀ v, 0 ≤ v → v < n → κ' v ≤ κ v) : phi n κ' ≤ phi n κ := by
  refine sum_le _ _ _ fun i hi => ?_
  have := h (i : Nat) (by omega) (by have := List.mem_range.1 hi; omega)
  omega
theorem phi_put {w x : Int} (h0 : 0 ≤ w) (h1 : w < n) (hx : 0 ≤ x) (hlt : x < κ w) : phi n (put κ w x) < phi n κ := by
  refine sum_lt _ _ _ (fun i _ => ?_) w.toNat (by rw [List.mem_range]; omega) ?_
  · unfold put
    by_cases e : ((i : Nat) : Int) = w
    · rw [if_pos e]; subst e; omega
    · rw [if_neg e]; exact Nat.le_refl _
  · unfold put
    rw [Int.toNat_of_nonneg h0, if_pos rfl]; omega
end

end Go.Proofs.Ytdiichfdffhdaaa
