/-
  Plain words on ways: the last ride to a town, and the rides back to the start.
-/
import Derived.Test.YtdiichfdffhdaaaPostMath
import Derived.Test.YtdiichfdffhdaaaJourneyMath
namespace Go.Proofs.Ytdiichfdffhdaaa

def firstIdx (p : T3 → Bool) (i : Nat) : List T3 → Int
  | [] => -1
  | s :: r => if p s then i else firstIdx p (i + 1) r
theorem firstIdx_drop (p : T3 → Bool) (l : List T3) (k : Nat) (h : k < l.length) (hne : p l[k] = false) : firstIdx p k (l.drop k) = firstIdx p (k + 1) (l.drop (k + 1)) := by
  rw [List.drop_eq_getElem_cons h, firstIdx, if_neg (by simp [hne])]
theorem firstIdx_here (p : T3 → Bool) (l : List T3) (k : Nat) (h : k < l.length) (he : p l[k] = true) : firstIdx p k (l.drop k) = k := by
  rw [List.drop_eq_getElem_cons h, firstIdx, if_pos he]
theorem firstIdx_spec (p : T3 → Bool) (l : List T3) : (firstIdx p 0 l = -1 ∧ ∀ a ∈ l, p a = false) ∨ ∃ (m : Nat) (hm : m < l.length), firstIdx p 0 l = m ∧ p l[m] = true := by
  have key : ∀ (l : List T3) (k : Nat), (firstIdx p k l = -1 ∧ ∀ a ∈ l, p a = false) ∨ ∃ (m : Nat) (hm : m < l.length), firstIdx p k l = (k + m : Nat) ∧ p l[m] = true := by
    intro l
    induction l with
    | nil => intro k; exact .inl ⟨rfl, fun a h => by simp at h⟩
    | cons s r ih =>
      intro k
      rw [firstIdx]
      cases hs : p s
      · rw [if_neg (by simp)]
        rcases ih (k + 1) with ⟨h1, h2⟩ | ⟨m, hm, h1, h2⟩
        · exact .inl ⟨h1, fun a h => by
            rcases List.mem_cons.1 h with rfl | h
            · exact hs
            · exact h2 a h⟩
        · exact .inr ⟨m + 1, by simpa using hm, by rw [h1]; congr 1; omega, by simpa using h2⟩
      · exact .inr ⟨0, by simp, by simp, by simpa using hs⟩
  rcases key l 0 with h | ⟨m, hm, h1, h2⟩
  · exact .inl h
  · exact .inr ⟨m, hm, by rw [h1]; simp, h2⟩
section
variable (T : List Int) (f ch town : Int)
def rideTo (c : Nat) (l : List T3) : Option T3 :=
  if atL town l < 0 then none else if (l.getD (atL town l).toNat (0, 0, 0)).2.1 ≠ tg T town then none else
    if firstIdx (rdyB T f ch) 0 (l.take (atL town l).toNat) < 0 then none else some ((c : Int), firstIdx (rdyB T f ch) 0 (l.take (atL town l).toNat), atL town l)
def lastFrom : Nat → Net → Option T3
  | _, [] => none
  | c, l :: r => match rideTo T f ch town c l with
    | some x => some x
    | none => lastFrom (c + 1) r
end
def lastR (T : List Int) (f ch : Int) (net : Net) (town : Int) : Option T3 := lastFrom T f ch town 0 net
theorem last_next {T : List Int} {f ch town : Int} {net : Net} {k : Nat} (h : k < net.length) (hn : rideTo T f ch town k net[k] = none) : lastFrom T f ch town k (net.drop k) = lastFrom T f ch town (k + 1) (net.drop (k + 1)) := by
  rw [List.drop_eq_getElem_cons h, lastFrom, hn]
theorem last_here {T : List Int} {f ch town : Int} {net : Net} {k : Nat} {x : T3} (h : k < net.length) (hn : rideTo T f ch town k net[k] = some x) : lastFrom T f ch town k (net.drop k) = some x := by
  rw [List.drop_eq_getElem_cons h, lastFrom, hn]
theorem rideTo_some {T : List Int} {f ch town : Int} {c : Nat} {l : List T3} {x : T3} (h : rideTo T f ch town c l = some x) : ∃ (i k : Nat) (a b : T3), x = ((c : Int), (i : Int), (k : Int)) ∧ i < k ∧ l[i]? = some a ∧ l[k]? = some b ∧ b.1 = town ∧ b.2.1 = tg T town ∧ rdyB T f ch a = true := by
  unfold rideTo at h
  rcases atFrom_ge town 0 l with ha | ⟨k, hk, ha, hkt⟩
  · have : atL town l = -1 := ha
    rw [if_pos (by omega)] at h; cases h
  · have ha' : atL town l = (k : Int) := by rw [atL, ha]; simp
    rw [ha', if_neg (by omega), Int.toNat_natCast] at h
    have hg : l.getD k (0, 0, 0) = l[k] := by rw [List.getD_eq_getElem?_getD, List.getElem?_eq_getElem hk]; rfl
    rw [hg] at h
    by_cases h1 : l[k].2.1 ≠ tg T town
    · rw [if_pos h1] at h; cases h
    rw [if_neg h1] at h
    rcases firstIdx_spec (rdyB T f ch) (l.take k) with ⟨h2, _⟩ | ⟨i, hi, h2, h3⟩
    · rw [if_pos (by omega)] at h; cases h
    · rw [if_neg (by omega), h2] at h
      injection h with h
      rw [List.length_take] at hi
      refine ⟨i, k, l[i], l[k], h.symm, by omega, List.getElem?_eq_getElem (by omega), List.getElem?_eq_getElem hk, hkt, Decidable.not_not.1 h1, ?_⟩
      rw [List.getElem_take] at h3; exact h3
theorem lastFrom_some {T : List Int} {f ch town : Int} {net : Net} {c : Nat} {x : T3} (h : lastFrom T f ch town c net = some x) : ∃ (k : Nat) (hk : k < net.length), rideTo T f ch town (c + k) net[k] = some x := by
  induction net generalizing c with
  | nil => cases h
  | cons l r ih =>
    rw [lastFrom] at h
    cases hr : rideTo T f ch town c l with
    | some y => rw [hr] at h; injection h with h; subst h; exact ⟨0, by simp, by simpa using hr⟩
    | none =>
      rw [hr] at h
      obtain ⟨k, hk, h2⟩ := ih h
      exact ⟨k + 1, by simpa using hk, by simpa [Nat.add_assoc, Nat.add_comm 1 k] using h2⟩
theorem lastFrom_none {T : List Int} {f ch town : Int} {net : Net} {c : Nat} (h : lastFrom T f ch town c net = none) (k : Nat) (hk : k < net.length) : rideTo T f ch town (c + k) net[k] = none := by
  induction net generalizing c k with
  | nil => simp at hk
  | cons l r ih =>
    rw [lastFrom] at h
    cases hr : rideTo T f ch town c l with
    | some y => rw [hr] at h; cases h
    | none =>
      rw [hr] at h
      cases k with
      | zero => simpa using hr
      | succ k =>
        have := ih h k (by simpa using hk)
        simpa [Nat.add_assoc, Nat.add_comm 1 k] using this
theorem atL_at2 {n : Int} {l : List T3} (hs : stopsB n l = true) {i : Nat} {a : T3} (hi : l[i]? = some a) : atL a.1 l = i := by
  rcases atFrom_ge a.1 0 l with ha | ⟨k, hk, ha, hkt⟩
  · exfalso
    have key : ∀ (r : List T3) (k : Nat), (∀ b ∈ r, b.1 ≠ a.1) ∨ atFrom a.1 k r ≠ -1 := by
      intro r
      induction r with
      | nil => intro k; exact .inl fun b hb => by simp at hb
      | cons s r ih =>
        intro k
        rw [atFrom]
        by_cases e : s.1 = a.1
        · rw [if_pos e]; exact .inr (by omega)
        · rw [if_neg e]
          rcases ih (k + 1) with h | h
          · exact .inl fun b hb => by
              rcases List.mem_cons.1 hb with rfl | hb
              · exact e
              · exact h b hb
          · exact .inr h
    rcases key l 0 with h | h
    · exact h a (List.mem_of_getElem? hi) rfl
    · exact h ha
  · have e := stopsB_inj hs (List.getElem?_eq_getElem hk) hi hkt
    subst e
    rw [atL, ha]; simp
section
variable {n : Int} {net : Net} {f t0 ch : Int} {T : List Int}
/-- Who is reached, but at the start, is reached by a last ride. -/
theorem last_ex (hok : postOk n net f t0 ch = true) (hT : IsTab n net f t0 ch T) {town : Int} (h0 : 0 ≤ town) (h1 : town < n) (hr : 0 ≤ tg T town) (hne : town ≠ f) :
    ∃ (c i k : Nat) (l : List T3) (a b : T3), lastR T f ch net town = some ((c : Int), (i : Int), (k : Int)) ∧ net[c]? = some l ∧ i < k ∧ l[i]? = some a ∧ l[k]? = some b ∧ b.1 = town ∧ b.2.1 = tg T town ∧ rdyB T f ch a = true := by
  obtain ⟨hnet, hf, ht, hch, hn⟩ := postOk_and hok
  have hx : ∃ x, lastR T f ch net town = some x := by
    cases hl : lastR T f ch net town with
    | some x => exact ⟨x, rfl⟩
    | none =>
      exfalso
      have hm := (hT.2 town h0 h1).2.1 (by rw [keyF_nn hr]; have := (hT.1.tg h0 h1).2; omega)
      rw [keyF_nn hr] at hm
      rcases Rr_last hm with ⟨e, _⟩ | ⟨u, y, thr, hu, ⟨a, b, hh, rfl, rfl, hb1, hb2⟩, hy⟩
      · exact hne e
      · have ho := hop_ok hnet hh
        obtain ⟨l, hl', i, j, hij, hi, hj⟩ := hh
        obtain ⟨k, hk, rfl⟩ := List.getElem_of_mem hl'
        have hs := netB_mem hnet (List.getElem_mem hk)
        have hno := lastFrom_none hl k hk
        have hat := atL_at2 hs hj
        rw [← hb1] at hat
        have hka := (hT.2 a.1 (by omega) (by omega)).2.2 y hu
        have hrd : rdyB T f ch a = true := (rdy_key (by omega) hch.1).2 (by omega)
        unfold rideTo at hno
        rw [hat, if_neg (by omega), Int.toNat_natCast] at hno
        have hg : net[k].getD j (0, 0, 0) = b := by rw [List.getD_eq_getElem?_getD, hj]; rfl
        rw [hg, if_neg (by rw [← hb2]; simp)] at hno
        rcases firstIdx_spec (rdyB T f ch) (net[k].take j) with ⟨_, h3⟩ | ⟨m, _, h2, _⟩
        · have hjl : j < net[k].length := (List.getElem?_eq_some_iff.1 hj).1
          have hmem : a ∈ net[k].take j := List.mem_of_getElem? (i := i) (by rw [List.getElem?_take_of_lt hij]; exact hi)
          have := h3 a hmem
          rw [hrd] at this; cases this
        · rw [if_neg (by omega)] at hno; cases hno
  obtain ⟨x, hx⟩ := hx
  obtain ⟨c, hc, hrt⟩ := lastFrom_some hx
  obtain ⟨i, k, a, b, rfl, h⟩ := rideTo_some hrt
  rw [Nat.zero_add] at hx
  exact ⟨c, i, k, net[c], a, b, hx, List.getElem?_eq_getElem hc, h⟩
end
def townOf (net : Net) (r : T3) : Int := (stopOf net r.1 r.2.1).1
def wayF (T : List Int) (f ch : Int) (net : Net) : Nat → Int → List T3
  | 0, _ => []
  | fuel + 1, t => if t = f then [] else match lastR T f ch net t with
    | none => []
    | some r => r :: wayF T f ch net fuel (townOf net r)
/-- The rides of the way, the last one first. -/
def wayB (T : List Int) (f ch : Int) (net : Net) (t : Int) : List T3 := wayF T f ch net ((tg T t).toNat + 1) t
theorem stopOf_get {net : Net} {c i k : Nat} {l : List T3} {a : T3} (hc : net[c]? = some l) (hi : l[i]? = some a) : stopOf net ((c : Int), (i : Int), (k : Int)).1 ((c : Int), (i : Int), (k : Int)).2.1 = a := by
  unfold stopOf coachOf
  simp [List.getD_eq_getElem?_getD, hc, hi]
section
variable {n : Int} {net : Net} {f t0 ch : Int} {T : List Int}
theorem way_step (hok : postOk n net f t0 ch = true) (hT : IsTab n net f t0 ch T) {c i k : Nat} {l : List T3} {a b : T3} {town : Int} (hc : net[c]? = some l) (hik : i < k) (hi : l[i]? = some a) (hk : l[k]? = some b) (hb : b.2.1 = tg T town) (hr : rdyB T f ch a = true) :
    townOf net ((c : Int), (i : Int), (k : Int)) = a.1 ∧ 0 ≤ a.1 ∧ a.1 < n ∧ 0 ≤ tg T a.1 ∧ tg T a.1 < tg T town := by
  obtain ⟨hnet, hf, ht, hch, hn⟩ := postOk_and hok
  have ho := hop_ok hnet (a := a) (b := b) ⟨l, List.mem_of_getElem? hc, i, k, hik, hi, hk⟩
  have := of_decide_eq_true hr
  have hg := chg_nn (f := f) (v := a.1) hch.1
  refine ⟨by unfold townOf; rw [stopOf_get hc hi], by omega, by omega, this.1, by omega⟩
theorem wayF_enough (hok : postOk n net f t0 ch = true) (hT : IsTab n net f t0 ch T) (fuel : Nat) : ∀ (fuel' : Nat) (t : Int), 0 ≤ t → t < n → 0 ≤ tg T t → (tg T t).toNat < fuel → (tg T t).toNat < fuel' → wayF T f ch net fuel t = wayF T f ch net fuel' t := by
  induction fuel with
  | zero => intro fuel' t _ _ _ h; omega
  | succ fuel ih =>
    intro fuel' t h0 h1 hr h2 h3
    cases fuel' with
    | zero => omega
    | succ fuel' =>
      simp only [wayF]
      by_cases e : t = f
      · rw [if_pos e, if_pos e]
      · rw [if_neg e, if_neg e]
        obtain ⟨c, i, k, l, a, b, hl, hc, hik, hi, hk, hb1, hb2, hrd⟩ := last_ex hok hT h0 h1 hr e
        have hs := way_step hok hT hc hik hi hk hb2 hrd
        rw [hl]
        simp only
        rw [hs.1, ih fuel' a.1 hs.2.1 hs.2.2.1 hs.2.2.2.1 (by omega) (by omega)]
theorem wayB_start : wayB T f ch net f = [] := by
  unfold wayB; rw [wayF, if_pos rfl]
theorem wayB_cons (hok : postOk n net f t0 ch = true) (hT : IsTab n net f t0 ch T) {t : Int} (h0 : 0 ≤ t) (h1 : t < n) (hr : 0 ≤ tg T t) (hne : t ≠ f) {r : T3} (hl : lastR T f ch net t = some r) (hu0 : 0 ≤ townOf net r) (hu1 : townOf net r < n) (hu2 : 0 ≤ tg T (townOf net r)) (hu3 : tg T (townOf net r) < tg T t) : wayB T f ch net t = r :: wayB T f ch net (townOf net r) := by
  show wayF T f ch net ((tg T t).toNat + 1) t = _
  rw [wayF, if_neg hne, hl]
  simp only
  congr 1
  exact wayF_enough hok hT _ _ _ hu0 hu1 hu2 (by omega) (by omega)
theorem wayF_len (fuel : Nat) (t : Int) : (wayF T f ch net fuel t).length ≤ fuel := by
  induction fuel generalizing t with
  | zero => simp [wayF]
  | succ fuel ih =>
    rw [wayF]
    split
    · simp
    · split
      · simp
      · rename_i r _
        have := ih (townOf net r)
        simp only [List.length_cons]; omega
end
def wayOk (n : Int) (net : Net) (f tt t0 ch : Int) : Bool := postOk n net f t0 ch && inB tt 0 (n - 1) && decide (0 ≤ tg (tableL n net f t0 ch) tt)
def wayV (n : Int) (net : Net) (f tt t0 ch : Int) : List T3 := if wayOk n net f tt t0 ch then (wayB (tableL n net f t0 ch) f ch net tt).reverse else []
theorem wayB_len {n : Int} {net : Net} {f tt t0 ch : Int} (hok : postOk n net f t0 ch = true) (hto : 0 ≤ tt ∧ tt < n) : (wayB (tableL n net f t0 ch) f ch net tt).length ≤ 10001 := by
  have h1 := wayF_len (T := tableL n net f t0 ch) (f := f) (ch := ch) (net := net) ((tg (tableL n net f t0 ch) tt).toNat + 1) tt
  have h2 := (tableL_is hok).1.tg hto.1 hto.2
  unfold wayB; omega
theorem wayV_len {n : Int} {net : Net} {f tt t0 ch : Int} : (wayV n net f tt t0 ch).length ≤ 1048576 := by
  unfold wayV
  split
  · rename_i h
    simp only [wayOk, Bool.and_eq_true, decide_eq_true_eq] at h
    have hto := of_inB h.1.2
    rw [List.length_reverse]
    have := wayB_len (tt := tt) h.1.1 ⟨hto.1, by omega⟩
    omega
  · simp
theorem way_case (n : Int) (net : Net) (f tt t0 ch : Int) : (wayOk n net f tt t0 ch = false ∧ wayV n net f tt t0 ch = []) ∨ (wayOk n net f tt t0 ch = true ∧ postOk n net f t0 ch = true ∧ (0 ≤ tt ∧ tt < n) ∧ 0 ≤ tg (tableL n net f t0 ch) tt ∧ wayV n net f tt t0 ch = (wayB (tableL n net f t0 ch) f ch net tt).reverse) := by
  cases h : wayOk n net f tt t0 ch
  · exact .inl ⟨rfl, by simp [wayV, h]⟩
  · have h' := h
    simp only [wayOk, Bool.and_eq_true, decide_eq_true_eq] at h'
    have hto := of_inB h'.1.2
    exact .inr ⟨rfl, h'.1.1, ⟨hto.1, by omega⟩, h'.2, by simp [wayV, h]⟩

end Go.Proofs.Ytdiichfdffhdaaa
