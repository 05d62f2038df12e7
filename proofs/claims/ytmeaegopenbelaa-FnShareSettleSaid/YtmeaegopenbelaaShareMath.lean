/-
  Plain words on shares: who gets one more; what a list of shares is; its laws.
-/
import Derived.Test.YtmeaegopenbelaaLateMath
namespace Go.Proofs.Ytmeaegopenbelaa

/-- Of two proprietors the first one comes first: the greater rest, and of equal rests the smaller number. -/
def bef (R : List Int) (i j : Int) : Prop := R.getD j.toNat 0 < R.getD i.toNat 0 ∨ (R.getD i.toNat 0 = R.getD j.toNat 0 ∧ i < j)
theorem bef_trans {R : List Int} {i j k : Int} (h1 : bef R i j) (h2 : bef R j k) : bef R i k := by
  unfold bef at *; omega
theorem bef_not {R : List Int} {i j : Int} (h1 : bef R i j) (h2 : bef R j i) : False := by
  unfold bef at *; omega
/-- The first ones of all. -/
def IsTop (R S : List Int) : Prop := S.Nodup ∧ (∀ i ∈ S, 0 ≤ i ∧ i < R.length) ∧ ∀ i ∈ S, ∀ j : Int, 0 ≤ j → j < R.length → j ∉ S → bef R i j
theorem sub_len {S S' : List Int} (hn : S'.Nodup) (h : ∀ x ∈ S', x ∈ S) : S'.length ≤ S.length := by
  induction S' generalizing S with
  | nil => simp
  | cons x r ih =>
    rw [List.nodup_cons] at hn
    have hx := h x (by simp)
    have h1 := ih hn.2 (S := S.erase x) (fun y hy => by
      have hy1 := h y (by simp [hy])
      rw [List.mem_erase_of_ne (fun e => hn.1 (by rw [← e]; exact hy))]; exact hy1)
    rw [List.length_erase_of_mem hx] at h1
    have := List.length_pos_of_mem hx
    simp only [List.length_cons]; omega
theorem top_one {R S S' : List Int} (h : IsTop R S) (h' : IsTop R S') (hl : S.length = S'.length) : ∀ i, i ∈ S → i ∈ S' := by
  intro i hi
  apply Classical.byContradiction
  intro hni
  have hr := h.2.1 i hi
  have hex : ∃ j ∈ S', j ∉ S := by
    apply Classical.byContradiction
    intro hno
    have hsub : ∀ x ∈ i :: S', x ∈ S := by
      intro x hx
      rcases List.mem_cons.1 hx with rfl | hx
      · exact hi
      · exact Classical.byContradiction fun hx2 => hno ⟨x, hx, hx2⟩
    have := sub_len (List.nodup_cons.2 ⟨hni, h'.1⟩) hsub
    simp only [List.length_cons] at this
    omega
  obtain ⟨j, hj, hjn⟩ := hex
  have hrj := h'.2.1 j hj
  exact bef_not (h.2.2 i hi j hrj.1 hrj.2 hjn) (h'.2.2 j hj i hr.1 hr.2 hni)
/-- One more for each of some. -/
def raise (q S : List Int) : List Int := (List.range q.length).map fun i => q.getD i 0 + if (i : Int) ∈ S then 1 else 0
theorem raise_len (q S : List Int) : (raise q S).length = q.length := by simp [raise]
theorem raise_get {q S : List Int} {i : Nat} (h : i < q.length) : (raise q S).getD i 0 = q.getD i 0 + if (i : Int) ∈ S then 1 else 0 := by
  simp [raise, List.getD_eq_getElem?_getD, h]
theorem raise_nil (q : List Int) : raise q [] = q := by
  apply List.ext_getElem (by rw [raise_len])
  intro i h1 h2
  simp [raise, List.getD_eq_getElem?_getD, h2]
theorem raise_same {q S S' : List Int} (h : ∀ i, i ∈ S ↔ i ∈ S') : raise q S = raise q S' := by
  unfold raise
  apply List.map_congr_left
  intro i _
  by_cases e : (i : Int) ∈ S
  · rw [if_pos e, if_pos ((h _).1 e)]
  · rw [if_neg e, if_neg (fun h' => e ((h _).2 h'))]
theorem raise_set {q S : List Int} {b : Nat} (hb : b < q.length) (hn : (b : Int) ∉ S) : (raise q S).set b ((raise q S).getD b 0 + 1) = raise q (b :: S) := by
  apply List.ext_getElem (by simp [raise_len])
  intro i h1 h2
  have hgb := raise_get hb (S := S)
  rw [if_neg hn, Int.add_zero] at hgb
  rw [List.getElem_set]
  have hi : i < q.length := by simpa [raise_len] using h2
  by_cases e : b = i
  · subst e
    rw [if_pos rfl]
    refine (congrArg (· + 1) hgb).trans ?_
    simp [raise, List.getD_eq_getElem?_getD, hi]
  · rw [if_neg e]
    simp only [raise, List.getElem_map, List.getElem_range, List.mem_cons]
    have : ((i : Int) = (b : Int) ∨ (i : Int) ∈ S) ↔ (i : Int) ∈ S := ⟨fun h => h.elim (fun h => absurd h (by omega)) id, .inr⟩
    by_cases e2 : (i : Int) ∈ S
    · rw [if_pos e2, if_pos (this.2 e2)]
    · rw [if_neg e2, if_neg (fun h => e2 (this.1 h))]
/-- The index of the greatest rest, of equal ones the first. -/
def bestTo (R : List Int) : Nat → Nat
  | 0 => 0
  | i + 1 => if R.getD (bestTo R i) 0 < R.getD i 0 then i else bestTo R i
theorem bestTo_spec (R : List Int) (i : Nat) : bestTo R (i + 1) < i + 1 ∧ (∀ j, j < i + 1 → R.getD j 0 ≤ R.getD (bestTo R (i + 1)) 0) ∧ ∀ j, j < bestTo R (i + 1) → R.getD j 0 < R.getD (bestTo R (i + 1)) 0 := by
  induction i with
  | zero =>
    have e : bestTo R 1 = 0 := by simp [bestTo]
    rw [e]
    exact ⟨by omega, fun j hj => by obtain rfl : j = 0 := by omega
                                    exact Int.le_refl _, fun j hj => by omega⟩
  | succ i ih =>
    obtain ⟨h1, h2, h3⟩ := ih
    rw [bestTo]
    by_cases e : R.getD (bestTo R (i + 1)) 0 < R.getD (i + 1) 0
    · rw [if_pos e]
      refine ⟨by omega, fun j hj => ?_, fun j hj => ?_⟩
      · by_cases ej : j = i + 1
        · rw [ej]; exact Int.le_refl _
        · have := h2 j (by omega); omega
      · have := h2 j (by omega); omega
    · rw [if_neg e]
      refine ⟨by omega, fun j hj => ?_, h3⟩
      by_cases ej : j = i + 1
      · rw [ej]; omega
      · exact h2 j (by omega)
/-- The reference gives one more to the best, and strikes the rest. -/
def shareGo : Nat → List Int → List Int → List Int
  | 0, out, _ => out
  | t + 1, out, R => shareGo t (out.set (bestTo R R.length) (out.getD (bestTo R R.length) 0 + 1)) (R.set (bestTo R R.length) (-1))
def strike (R S : List Int) : List Int := (List.range R.length).map fun (i : Nat) => if (i : Int) ∈ S then -1 else R.getD i 0
theorem strike_len (R S : List Int) : (strike R S).length = R.length := by simp [strike]
theorem strike_get {R S : List Int} {i : Nat} (h : i < R.length) : (strike R S).getD i 0 = if (i : Int) ∈ S then -1 else R.getD i 0 := by
  simp [strike, List.getD_eq_getElem?_getD, h]
theorem strike_nil (R : List Int) : strike R [] = R := by
  apply List.ext_getElem (by rw [strike_len])
  intro i h1 h2
  simp [strike, List.getD_eq_getElem?_getD, h2]
theorem strike_set {R S : List Int} {b : Nat} (hb : b < R.length) : (strike R S).set b (-1) = strike R (b :: S) := by
  apply List.ext_getElem (by simp [strike_len])
  intro i h1 h2
  rw [List.getElem_set]
  by_cases e : b = i
  · subst e
    rw [if_pos rfl]
    simp [strike]
  · rw [if_neg e]
    simp only [strike, List.getElem_map, List.getElem_range, List.mem_cons]
    have : ((i : Int) = (b : Int) ∨ (i : Int) ∈ S) ↔ (i : Int) ∈ S := ⟨fun h => h.elim (fun h => absurd h (by omega)) id, .inr⟩
    by_cases e2 : (i : Int) ∈ S
    · rw [if_pos e2, if_pos (this.2 e2)]
    · rw [if_neg e2, if_neg (fun h => e2 (this.1 h))]
theorem nat_mem_exists {S : List Int} {n : Nat} (hl : S.length < n) : ∃ i : Nat, i < n ∧ (i : Int) ∉ S := by
  apply Classical.byContradiction
  intro hno
  have hsub : ∀ x ∈ (List.range n).map (fun i : Nat => (i : Int)), x ∈ S := by
    intro x hx
    obtain ⟨i, hi, rfl⟩ := List.mem_map.1 hx
    exact Classical.byContradiction fun h => hno ⟨i, List.mem_range.1 hi, h⟩
  have hnd : ((List.range n).map (fun i : Nat => (i : Int))).Nodup := by
    rw [List.Nodup, List.pairwise_map]
    exact List.nodup_range.imp (fun h e => h (by omega))
  have := sub_len hnd hsub
  simp at this
  omega
theorem best_top {R S : List Int} (hR : ∀ x ∈ R, 0 ≤ x) (h : IsTop R S) (hl : S.length < R.length) : bestTo (strike R S) R.length < R.length ∧ ((bestTo (strike R S) R.length : Nat) : Int) ∉ S ∧ IsTop R (((bestTo (strike R S) R.length : Nat) : Int) :: S) := by
  obtain ⟨m, hm⟩ : ∃ m, R.length = m + 1 := ⟨R.length - 1, by omega⟩
  obtain ⟨h1, h2, h3⟩ := bestTo_spec (strike R S) m
  rw [← hm] at h1 h2 h3
  generalize hb : bestTo (strike R S) R.length = b at *
  have hnn : ∀ i, i < R.length → 0 ≤ R.getD i 0 := fun i hi => by
    rw [List.getD_eq_getElem?_getD, List.getElem?_eq_getElem hi]; exact hR _ (List.getElem_mem hi)
  obtain ⟨i0, hi0, hn0⟩ := nat_mem_exists hl
  have hbn : (b : Int) ∉ S := by
    intro hin
    have := h2 i0 hi0
    rw [strike_get hi0, strike_get h1, if_neg hn0, if_pos hin] at this
    have := hnn i0 hi0
    omega
  refine ⟨h1, hbn, List.nodup_cons.2 ⟨hbn, h.1⟩, fun i hi => ?_, fun i hi j hj0 hj1 hjn => ?_⟩
  · rcases List.mem_cons.1 hi with rfl | hi
    · omega
    · exact h.2.1 i hi
  · have hjS : j ∉ S := fun hh => hjn (List.mem_cons_of_mem _ hh)
    rcases List.mem_cons.1 hi with rfl | hi
    · have e : ((j.toNat : Nat) : Int) = j := by omega
      have hjl : j.toNat < R.length := by omega
      have g1 := h2 j.toNat hjl
      have g2 := h3 j.toNat
      rw [strike_get hjl, strike_get h1, if_neg (by rw [e]; exact hjS), if_neg hbn] at g1 g2
      unfold bef
      rw [Int.toNat_natCast]
      by_cases hlt : R.getD j.toNat 0 < R.getD b 0
      · exact .inl hlt
      · right
        refine ⟨by omega, ?_⟩
        have hne : j ≠ (b : Int) := fun e2 => hjn (by rw [e2]; simp)
        by_cases hjb : j.toNat < b
        · have := g2 hjb; omega
        · omega
    · exact h.2.2 i hi j hj0 hj1 hjS
theorem shareGo_is {R q : List Int} (hR : ∀ x ∈ R, 0 ≤ x) (hq : q.length = R.length) (t : Nat) : ∀ S : List Int, IsTop R S → S.length + t ≤ R.length → ∃ S', IsTop R S' ∧ S'.length = S.length + t ∧ shareGo t (raise q S) (strike R S) = raise q S' := by
  induction t with
  | zero => intro S h _; exact ⟨S, h, rfl, rfl⟩
  | succ t ih =>
    intro S h hl
    obtain ⟨b1, b2, b3⟩ := best_top hR h (by omega)
    rw [shareGo, strike_len, raise_set (by omega) b2, strike_set b1]
    obtain ⟨S', g1, g2, g3⟩ := ih _ b3 (by simp only [List.length_cons]; omega)
    exact ⟨S', g1, by rw [g2]; simp only [List.length_cons]; omega, g3⟩
theorem top_nil (R : List Int) : IsTop R [] := ⟨List.nodup_nil, by simp, by simp⟩
/-- Quotients, rests, what is left. -/
def quoL (m : List Int) (a all : Int) : List Int := m.map fun x => a * x / all
def resL (m : List Int) (a all : Int) : List Int := m.map fun x => a * x % all
def leftV (m : List Int) (a : Int) : Int := a - sumI (quoL m a (sumI m))
def shareL (m : List Int) (a : Int) : List Int := shareGo (leftV m a).toNat (quoL m a (sumI m)) (resL m a (sumI m))
theorem sum_split (m : List Int) (a all : Int) (h : 0 < all) : sumI (quoL m a all) * all + sumI (resL m a all) = a * sumI m := by
  induction m with
  | nil => simp [quoL, resL, sumI]
  | cons x r ih =>
    have e := Int.mul_ediv_add_emod (a * x) all
    simp only [quoL, resL, List.map_cons, sumI_cons] at *
    rw [Int.add_mul, Int.mul_add, ← ih]
    have : a * x / all * all = all * (a * x / all) := Int.mul_comm _ _
    omega
theorem res_range {m : List Int} {a all : Int} (h : 0 < all) : ∀ x ∈ resL m a all, 0 ≤ x ∧ x < all := by
  intro x hx
  obtain ⟨y, _, rfl⟩ := List.mem_map.1 hx
  exact ⟨Int.emod_nonneg _ (by omega), Int.emod_lt_of_pos _ h⟩
theorem sum_le {L : List Int} {B : Int} (h : ∀ x ∈ L, x ≤ B) : sumI L ≤ L.length * B := by
  induction L with
  | nil => simp [sumI]
  | cons x r ih =>
    have h1 := h x (by simp)
    have h2 := ih fun y hy => h y (by simp [hy])
    have e : ((r.length + 1 : Nat) : Int) * B = r.length * B + B := by rw [Int.natCast_add, Int.add_mul]; simp
    simp only [sumI_cons, List.length_cons]
    omega
theorem sum_nn {L : List Int} (h : ∀ x ∈ L, 0 ≤ x) : 0 ≤ sumI L ∧ ∀ x ∈ L, x ≤ sumI L := by
  induction L with
  | nil => simp [sumI]
  | cons x r ih =>
    have h1 := h x (by simp)
    have h2 := ih fun y hy => h y (by simp [hy])
    simp only [sumI_cons, List.mem_cons]
    exact ⟨by omega, fun y hy => by rcases hy with rfl | hy; omega; have := h2.2 y hy; omega⟩
/-- What is left: as often as all go into the rests. -/
theorem left_range {m : List Int} {a : Int} (hp : 0 < sumI m) : leftV m a * sumI m = sumI (resL m a (sumI m)) ∧ 0 ≤ leftV m a ∧ leftV m a ≤ m.length ∧ (0 < leftV m a → leftV m a < m.length) := by
  have h1 := sum_split m a (sumI m) hp
  have hr := res_range (m := m) (a := a) hp
  have h2 := sum_nn fun x hx => (hr x hx).1
  have h3 := sum_le (B := sumI m - 1) fun x hx => by have := (hr x hx).2; omega
  have hl : (resL m a (sumI m)).length = m.length := by simp [resL]
  rw [hl] at h3
  have e : leftV m a * sumI m = sumI (resL m a (sumI m)) := by
    unfold leftV; rw [Int.sub_mul]; omega
  have h0 : 0 ≤ leftV m a := by
    apply Classical.byContradiction
    intro hn
    have : leftV m a * sumI m < 0 := Int.mul_neg_of_neg_of_pos (by omega) hp
    omega
  have hle : leftV m a < m.length ∨ leftV m a ≤ 0 := by
    apply Classical.byContradiction
    intro hn
    have g0 : 0 < m.length := by
      rcases Nat.eq_zero_or_pos m.length with h | h
      · rw [List.length_eq_zero_iff.1 h] at hp; simp [sumI] at hp
      · exact h
    have g1 : (m.length : Int) ≤ leftV m a := by omega
    have g2 : (m.length : Int) * sumI m ≤ leftV m a * sumI m := Int.mul_le_mul_of_nonneg_right g1 (by omega)
    have g3 : (m.length : Int) * (sumI m - 1) = m.length * sumI m - m.length := by rw [Int.mul_sub]; omega
    omega
  refine ⟨e, h0, by omega, fun h => by omega⟩
theorem share_top {m : List Int} {a : Int} (hp : 0 < sumI m) : ∃ S, IsTop (resL m a (sumI m)) S ∧ (S.length : Int) = leftV m a ∧ shareL m a = raise (quoL m a (sumI m)) S := by
  obtain ⟨_, h0, h1, _⟩ := left_range (a := a) hp
  have hl : (resL m a (sumI m)).length = m.length := by simp [resL]
  obtain ⟨S, g1, g2, g3⟩ := shareGo_is (q := quoL m a (sumI m)) (R := resL m a (sumI m)) (fun x hx => (res_range hp x hx).1) (by simp [quoL, resL]) (leftV m a).toNat [] (top_nil _) (by simp only [List.length_nil]; omega)
  rw [raise_nil, strike_nil] at g3
  exact ⟨S, g1, by rw [g2]; simp only [List.length_nil]; omega, g3⟩
/-- Any other list of the first ones does as well. -/
theorem share_is {m : List Int} {a : Int} (hp : 0 < sumI m) {S : List Int} (h : IsTop (resL m a (sumI m)) S) (hl : (S.length : Int) = leftV m a) : raise (quoL m a (sumI m)) S = shareL m a := by
  obtain ⟨S', g1, g2, g3⟩ := share_top (m := m) (a := a) hp
  rw [g3]
  exact raise_same fun i => ⟨top_one h g1 (by omega) i, top_one g1 h (by omega) i⟩
/-- A sorted order of all: its head is on top. -/
theorem sorted_top {R P : List Int} (hs : P.Pairwise (bef R)) (hr : ∀ i ∈ P, 0 ≤ i ∧ i < R.length) (hl : P.length = R.length) (t : Nat) : IsTop R (P.take t) := by
  have hnd : P.Nodup := hs.imp (fun h e => by subst e; exact bef_not h h)
  have hall : ∀ j : Int, 0 ≤ j → j < R.length → j ∈ P := by
    intro j h0 h1
    apply Classical.byContradiction
    intro hn
    have hsub : ∀ x ∈ j :: P, x ∈ (List.range R.length).map (fun i : Nat => (i : Int)) := by
      intro x hx
      have hx2 : 0 ≤ x ∧ x < R.length := by
        rcases List.mem_cons.1 hx with rfl | hx
        · exact ⟨h0, h1⟩
        · exact hr x hx
      exact List.mem_map.2 ⟨x.toNat, List.mem_range.2 (by omega), by omega⟩
    have := sub_len (List.nodup_cons.2 ⟨hn, hnd⟩) hsub
    simp at this
    omega
  refine ⟨hnd.sublist (List.take_sublist t P), fun i hi => hr i (List.mem_of_mem_take hi), fun i hi j h0 h1 hj => ?_⟩
  have hjP := hall j h0 h1
  rw [← List.take_append_drop t P] at hjP hs
  rcases List.mem_append.1 hjP with h | h
  · exact absurd h hj
  · exact (List.pairwise_append.1 hs).2.2 i hi j h

/-- How many of some are ones of all. -/
theorem top_count {R S : List Int} (h : IsTop R S) : ((List.range R.length).filter fun (i : Nat) => decide ((i : Int) ∈ S)).length = S.length := by
  apply Nat.le_antisymm
  · have hnd : (((List.range R.length).filter fun (i : Nat) => decide ((i : Int) ∈ S)).map (fun i : Nat => (i : Int))).Nodup := by
      rw [List.Nodup, List.pairwise_map]
      exact (List.nodup_range.sublist List.filter_sublist).imp (fun h e => h (by omega))
    have := sub_len (S := S) hnd (fun x hx => by
      obtain ⟨i, hi, rfl⟩ := List.mem_map.1 hx
      exact of_decide_eq_true (List.mem_filter.1 hi).2)
    simpa using this
  · have := sub_len (S := ((List.range R.length).filter fun (i : Nat) => decide ((i : Int) ∈ S)).map (fun i : Nat => (i : Int))) h.1 (fun x hx => by
      have hr := h.2.1 x hx
      have e : ((x.toNat : Nat) : Int) = x := by omega
      exact List.mem_map.2 ⟨x.toNat, List.mem_filter.2 ⟨List.mem_range.2 (by omega), decide_eq_true (by rw [e]; exact hx)⟩, e⟩)
    simpa using this
theorem sum_map_add (l : List Nat) (g : Nat → Int) (p : Nat → Bool) : sumI (l.map fun i => g i + if p i then 1 else 0) = sumI (l.map g) + (l.filter p).length := by
  induction l with
  | nil => simp [sumI]
  | cons x r ih =>
    simp only [List.map_cons, sumI_cons, ih, List.filter_cons]
    cases p x <;> simp <;> omega
theorem map_getD (q : List Int) : (List.range q.length).map (fun i => q.getD i 0) = q := by
  apply List.ext_getElem (by simp)
  intro i h1 h2
  simp [List.getD_eq_getElem?_getD, h2]
theorem raise_sum {q R S : List Int} (hq : q.length = R.length) (h : IsTop R S) : sumI (raise q S) = sumI q + S.length := by
  have e : raise q S = (List.range q.length).map fun (i : Nat) => (fun (i : Nat) => q.getD i 0) i + if (fun i : Nat => decide ((i : Int) ∈ S)) i then 1 else 0 := by
    unfold raise
    apply List.map_congr_left
    intro i _
    simp
  rw [e, sum_map_add, map_getD, hq, top_count h]
/-- Whom one more is given has a rest. -/
theorem top_rest {m : List Int} {a : Int} (hp : 0 < sumI m) {S : List Int} (h : IsTop (resL m a (sumI m)) S) (hl : (S.length : Int) = leftV m a) : ∀ i ∈ S, 0 < (resL m a (sumI m)).getD i.toNat 0 := by
  intro i hi
  obtain ⟨e, h0, _, _⟩ := left_range (a := a) hp
  have hr := res_range (m := m) (a := a) hp
  generalize resL m a (sumI m) = R at *
  apply Classical.byContradiction
  intro hn
  have hri := h.2.1 i hi
  have hz : ∀ j : Nat, j < R.length → (j : Int) ∉ S → R.getD j 0 ≤ 0 := by
    intro j hj hjn
    have hb := h.2.2 i hi j (by omega) (by omega) hjn
    unfold bef at hb
    rw [Int.toNat_natCast] at hb
    omega
  have hsum : sumI R ≤ S.length * (sumI m - 1) := by
    have g1 : sumI R ≤ sumI ((List.range R.length).map fun (j : Nat) => if (j : Int) ∈ S then sumI m - 1 else 0) := by
      have key : ∀ (l : List Nat), (∀ j ∈ l, j < R.length) → sumI (l.map fun (j : Nat) => R.getD j 0) ≤ sumI (l.map fun (j : Nat) => if (j : Int) ∈ S then sumI m - 1 else 0) := by
        intro l
        induction l with
        | nil => intro _; simp [sumI]
        | cons x r ih =>
          intro hx
          have h1 := ih fun j hj => hx j (by simp [hj])
          have hxl := hx x (by simp)
          simp only [List.map_cons, sumI_cons]
          by_cases hxs : (x : Int) ∈ S
          · rw [if_pos hxs]
            have := (hr (R.getD x 0) (by rw [List.getD_eq_getElem?_getD, List.getElem?_eq_getElem hxl]; exact List.getElem_mem hxl)).2
            omega
          · rw [if_neg hxs]
            have := hz x hxl hxs
            omega
      have := key (List.range R.length) (fun j hj => List.mem_range.1 hj)
      rwa [map_getD] at this
    have g2 : ∀ (l : List Nat), sumI (l.map fun (j : Nat) => if (j : Int) ∈ S then sumI m - 1 else 0) = ((l.filter fun (i : Nat) => decide ((i : Int) ∈ S)).length : Int) * (sumI m - 1) := by
      intro l
      induction l with
      | nil => simp [sumI]
      | cons x r ih =>
        simp only [List.map_cons, sumI_cons, ih, List.filter_cons]
        by_cases hxs : (x : Int) ∈ S
        · rw [if_pos hxs, decide_eq_true hxs]
          simp only [if_true, List.length_cons]
          rw [Int.natCast_add, Int.add_mul]; simp; omega
        · rw [if_neg hxs, decide_eq_false hxs]; simp
    rw [g2, top_count h] at g1
    exact g1
  have hSp : 0 < S.length := List.length_pos_of_mem hi
  rw [hl] at hsum
  rw [Int.mul_sub] at hsum
  omega

section
variable {m : List Int} {a : Int}
theorem share_len (hp : 0 < sumI m) : (shareL m a).length = m.length := by
  obtain ⟨S, _, _, e⟩ := share_top (m := m) (a := a) hp
  rw [e, raise_len]; simp [quoL]
theorem share_get (hp : 0 < sumI m) {S : List Int} (e : shareL m a = raise (quoL m a (sumI m)) S) {i : Nat} (hi : i < m.length) : (shareL m a).getD i 0 = a * m.getD i 0 / sumI m + if (i : Int) ∈ S then 1 else 0 := by
  rw [e, raise_get (by simpa [quoL] using hi)]
  congr 1
  simp [quoL, List.getD_eq_getElem?_getD, hi]
theorem res_get {all : Int} {i : Nat} (hi : i < m.length) : (resL m a all).getD i 0 = a * m.getD i 0 % all := by
  simp [resL, List.getD_eq_getElem?_getD, hi]
/-- FnShareMake. -/
theorem share_sum (hp : 0 < sumI m) : sumI (shareL m a) = a := by
  obtain ⟨S, h1, h2, e⟩ := share_top (m := m) (a := a) hp
  rw [e, raise_sum (by simp [quoL, resL]) h1, h2]
  unfold leftV; omega
theorem share_due (hp : 0 < sumI m) {i : Nat} (hi : i < m.length) : 0 - sumI m < (shareL m a).getD i 0 * sumI m - a * m.getD i 0 ∧ (shareL m a).getD i 0 * sumI m - a * m.getD i 0 < sumI m ∧ (m.getD i 0 = 0 → (shareL m a).getD i 0 = 0) := by
  obtain ⟨S, h1, h2, e⟩ := share_top (m := m) (a := a) hp
  rw [share_get hp e hi]
  have hr := top_rest hp h1 h2 i
  have hd := Int.mul_ediv_add_emod (a * m.getD i 0) (sumI m)
  have hm0 := Int.emod_nonneg (a * m.getD i 0) (show sumI m ≠ 0 by omega)
  have hm1 := Int.emod_lt_of_pos (a * m.getD i 0) hp
  have hc : a * m.getD i 0 / sumI m * sumI m = sumI m * (a * m.getD i 0 / sumI m) := Int.mul_comm _ _
  have hz : m.getD i 0 = 0 → a * m.getD i 0 = 0 := fun h => by rw [h]; simp
  have hz2 : m.getD i 0 = 0 → a * m.getD i 0 / sumI m = 0 := fun h => by rw [hz h]; simp
  have hz3 : m.getD i 0 = 0 → a * m.getD i 0 % sumI m = 0 := fun h => by rw [hz h]; simp
  rw [Int.toNat_natCast, res_get hi] at hr
  by_cases hS : (i : Int) ∈ S
  · rw [if_pos hS]
    have := hr hS
    rw [Int.add_mul]
    refine ⟨by omega, by omega, fun h => ?_⟩
    have := hz3 h
    omega
  · rw [if_neg hS, Int.add_zero]
    exact ⟨by omega, by omega, hz2⟩
/-- FnShareOrder. -/
theorem share_order (hp : 0 < sumI m) (ha : 0 ≤ a) {i k : Nat} (hi : i < m.length) (hk : k < m.length) (hm : 0 ≤ m.getD k 0) :
    (m.getD k 0 < m.getD i 0 → (shareL m a).getD k 0 ≤ (shareL m a).getD i 0) ∧ (m.getD i 0 = m.getD k 0 → i < k → (shareL m a).getD k 0 ≤ (shareL m a).getD i 0 ∧ (shareL m a).getD i 0 ≤ (shareL m a).getD k 0 + 1) := by
  obtain ⟨S, h1, h2, e⟩ := share_top (m := m) (a := a) hp
  have hl : (resL m a (sumI m)).length = m.length := by simp [resL]
  rw [share_get hp e hi, share_get hp e hk]
  have hbk : (k : Int) ∈ S → (i : Int) ∉ S → bef (resL m a (sumI m)) k i := fun h3 h4 => h1.2.2 k h3 i (by omega) (by omega) h4
  unfold bef at hbk
  rw [Int.toNat_natCast, Int.toNat_natCast, res_get hi, res_get hk] at hbk
  refine ⟨fun hlt => ?_, fun heq hik => ?_⟩
  · have hle : a * m.getD k 0 ≤ a * m.getD i 0 := Int.mul_le_mul_of_nonneg_left (by omega) ha
    have hdiv := Int.ediv_le_ediv hp hle
    by_cases hS1 : (k : Int) ∈ S
    · by_cases hS2 : (i : Int) ∈ S
      · rw [if_pos hS1, if_pos hS2]; omega
      · rw [if_pos hS1, if_neg hS2]
        apply Classical.byContradiction
        intro hn
        have heq : a * m.getD k 0 / sumI m = a * m.getD i 0 / sumI m := by omega
        have e1 := Int.mul_ediv_add_emod (a * m.getD k 0) (sumI m)
        have e2 := Int.mul_ediv_add_emod (a * m.getD i 0) (sumI m)
        rw [heq] at e1
        have hb := hbk hS1 hS2
        have hrest := top_rest hp h1 h2 k hS1
        rw [Int.toNat_natCast, res_get hk] at hrest
        have hz : a = 0 ∨ 0 < a := by omega
        rcases hz with rfl | ha
        · simp at hrest
        · have hlt2 : a * m.getD k 0 < a * m.getD i 0 := Int.mul_lt_mul_of_pos_left hlt ha
          omega
    · rw [if_neg hS1]
      split <;> omega
  · rw [heq] at hbk ⊢
    by_cases hS1 : (k : Int) ∈ S
    · by_cases hS2 : (i : Int) ∈ S
      · rw [if_pos hS1, if_pos hS2]; omega
      · have := hbk hS1 hS2
        omega
    · rw [if_neg hS1]
      split <;> omega
theorem share_nn (hp : 0 < sumI m) (ha : 0 ≤ a) (hm : ∀ x ∈ m, 0 ≤ x) : ∀ x ∈ shareL m a, 0 ≤ x ∧ x ≤ a := by
  have h0 : ∀ x ∈ shareL m a, 0 ≤ x := by
    obtain ⟨S, h1, h2, e⟩ := share_top (m := m) (a := a) hp
    rw [e]
    intro x hx
    obtain ⟨i, hi, rfl⟩ := List.mem_map.1 hx
    have hi' : i < m.length := by simpa [quoL] using hi
    have : (quoL m a (sumI m)).getD i 0 = a * m.getD i 0 / sumI m := by simp [quoL, List.getD_eq_getElem?_getD, hi']
    rw [this]
    have hmi : 0 ≤ m.getD i 0 := by rw [List.getD_eq_getElem?_getD, List.getElem?_eq_getElem hi']; exact hm _ (List.getElem_mem hi')
    have := Int.ediv_nonneg (Int.mul_nonneg ha hmi) (show 0 ≤ sumI m by omega)
    split <;> omega
  intro x hx
  have h2 := (sum_nn h0).2 x hx
  rw [share_sum hp] at h2
  exact ⟨h0 x hx, h2⟩
end

end Go.Proofs.Ytmeaegopenbelaa
