/-
  Plain laws on journeys: parts of a journey, further coaches, the end of a journey, the way is a journey.
-/
import Derived.Test.YtdiichfdffhdaaaPostLaws2
import Derived.Test.YtdiichfdffhdaaaWayMath
import Derived.Test.YtdiichfdffhdaaaJourneyMath
namespace Go.Proofs.Ytdiichfdffhdaaa

section
variable {n : Int} {net : Net} {ch : Int}
theorem rides_cons {p : Option T3} {r : T3} {rs : List T3} : ridesB net ch p (r :: rs) = true ↔ rideOk net r = true ∧ (∀ a, p = some a → linkOk net ch a r = true) ∧ ridesB net ch (some r) rs = true := by
  cases p with
  | none => simp [ridesB]
  | some a => simp [ridesB, and_assoc]
theorem rides_none {p : Option T3} {rs : List T3} (h : ridesB net ch p rs = true) : ridesB net ch none rs = true := by
  cases rs with
  | nil => rfl
  | cons r rs =>
    obtain ⟨h1, _, h3⟩ := rides_cons.1 h
    exact rides_cons.2 ⟨h1, fun a e => by (cases e), h3⟩
theorem rides_take {p : Option T3} {rs : List T3} (k : Nat) (h : ridesB net ch p rs = true) : ridesB net ch p (rs.take k) = true := by
  induction rs generalizing p k with
  | nil => simpa using h
  | cons r rs ih =>
    cases k with
    | zero => cases p <;> rfl
    | succ k =>
      obtain ⟨h1, h2, h3⟩ := rides_cons.1 h
      rw [List.take_succ_cons]
      exact rides_cons.2 ⟨h1, h2, ih k h3⟩
theorem rides_drop {p : Option T3} {rs : List T3} (k : Nat) (h : ridesB net ch p rs = true) : ridesB net ch none (rs.drop k) = true := by
  induction rs generalizing p k with
  | nil => simp [ridesB]
  | cons r rs ih =>
    cases k with
    | zero => exact rides_none h
    | succ k =>
      obtain ⟨h1, h2, h3⟩ := rides_cons.1 h
      rw [List.drop_succ_cons]
      exact ih k h3
theorem rides_sooner {p : Option T3} {rs : List T3} {ch' : Int} (hc : ch' ≤ ch) (h : ridesB net ch p rs = true) : ridesB net ch' p rs = true := by
  induction rs generalizing p with
  | nil => cases p <;> rfl
  | cons r rs ih =>
    obtain ⟨h1, h2, h3⟩ := rides_cons.1 h
    refine rides_cons.2 ⟨h1, fun a e => ?_, ih h3⟩
    have := of_decide_eq_true (h2 a e)
    exact decide_eq_true ⟨this.1, by omega⟩
theorem coach_more {m : Net} {c : Int} (h0 : 0 ≤ c) (h1 : c < net.length) : coachOf (net ++ m) c = coachOf net c := by
  unfold coachOf
  rw [List.getD_eq_getElem?_getD, List.getD_eq_getElem?_getD, List.getElem?_append_left (by omega)]
theorem rideOk_more {m : Net} {r : T3} (h : rideOk net r = true) : rideOk (net ++ m) r = true ∧ coachOf (net ++ m) r.1 = coachOf net r.1 := by
  have h := of_decide_eq_true h
  have e := coach_more (m := m) h.1 h.2.1
  refine ⟨decide_eq_true ⟨h.1, ?_, h.2.2.1, h.2.2.2.1, ?_⟩, e⟩
  · rw [List.length_append]; omega
  · rw [e]; exact h.2.2.2.2
theorem rides_more {m : Net} {p : Option T3} {rs : List T3} (hp : ∀ a, p = some a → rideOk net a = true) (h : ridesB net ch p rs = true) : ridesB (net ++ m) ch p rs = true := by
  induction rs generalizing p with
  | nil => cases p <;> rfl
  | cons r rs ih =>
    obtain ⟨h1, h2, h3⟩ := rides_cons.1 h
    have hr := rideOk_more (m := m) h1
    refine rides_cons.2 ⟨hr.1, fun a e => ?_, ih (fun a e => by cases e; exact h1) h3⟩
    have ha := rideOk_more (m := m) (hp a e)
    have h4 := of_decide_eq_true (h2 a e)
    unfold linkOk stopOf
    rw [hr.2, ha.2]
    exact decide_eq_true h4
theorem rides_snoc {p : Option T3} {rs : List T3} {r : T3} (h : ridesB net ch p rs = true) (hr : rideOk net r = true) (hp : ∀ a, p = some a → rs = [] → linkOk net ch a r = true) (hl : ∀ a, rs.getLast? = some a → linkOk net ch a r = true) : ridesB net ch p (rs ++ [r]) = true := by
  induction rs generalizing p with
  | nil => exact rides_cons.2 ⟨hr, fun a e => hp a e rfl, by cases p <;> rfl⟩
  | cons x rs ih =>
    obtain ⟨h1, h2, h3⟩ := rides_cons.1 h
    rw [List.cons_append]
    refine rides_cons.2 ⟨h1, h2, ih h3 (fun a e e2 => ?_) (fun a e => ?_)⟩
    · cases e; subst e2; exact hl x rfl
    · refine hl a ?_
      cases rs with
      | nil => simp at e
      | cons y rs => rw [List.getLast?_cons_cons]; exact e
theorem journey_and {rides : List T3} (h : journeyB n net rides ch = true) : netB n net = true ∧ (0 ≤ ch ∧ ch ≤ 300) ∧ ridesB net ch none rides = true := by
  simp only [journeyB, Bool.and_eq_true, inB, decide_eq_true_eq] at h
  exact ⟨h.1.1, h.1.2, h.2⟩
theorem journey_mk {rides : List T3} (h1 : netB n net = true) (h2 : 0 ≤ ch ∧ ch ≤ 300) (h3 : ridesB net ch none rides = true) : journeyB n net rides ch = true := by
  simp only [journeyB, Bool.and_eq_true, inB, decide_eq_true_eq]
  exact ⟨⟨h1, h2⟩, h3⟩
/-- The coach that FnJourney adds. -/
def moreL (n : Int) : List T3 := [(0, 0, 1), (n - 1, 5, 5)]
theorem more_net (h : netB n net = true) (hl : net.length < 6) (hn : 2 ≤ n) : netB n (net ++ [moreL n]) = true := by
  simp only [netB, Bool.and_eq_true, decide_eq_true_eq, List.all_eq_true] at h ⊢
  refine ⟨⟨h.1.1, h.1.2.1, by rw [List.length_append]; simp; omega⟩, fun l hl => ?_⟩
  rcases List.mem_append.1 hl with hl | hl
  · exact h.2 l hl
  · rw [List.mem_singleton] at hl
    subst hl
    have h1 := h.1.1
    have h2 := h.1.2.1
    simp [stopsB, sizesOk, stopsFrom, moreL, inB, stopOk, hasTown]
    omega
/-- FnJourney. -/
theorem journey_parts {rides : List T3} (h : journeyB n net rides ch = true) (k : Nat) : journeyB n net (rides.take k) ch = true ∧ journeyB n net (rides.drop k) ch = true ∧ (ch ≠ 0 → journeyB n net rides (ch - 1) = true) ∧ (net.length ≠ 6 → n ≠ 1 → journeyB n (net ++ [moreL n]) rides ch = true) := by
  obtain ⟨h1, h2, h3⟩ := journey_and h
  have hn := (netB_and h1).1
  have hl := (netB_and h1).2.1
  exact ⟨journey_mk h1 h2 (rides_take k h3), journey_mk h1 h2 (rides_drop k h3), fun hc => journey_mk h1 (by omega) (rides_sooner (by omega) h3),
    fun h6 hn1 => journey_mk (more_net h1 (by omega) (by omega)) h2 (rides_more (fun a e => by cases e) h3)⟩
/-- A ride is a hop. -/
theorem ride_hop {r : T3} (hn : netB n net = true) (h : rideOk net r = true) : Hop net (stopOf net r.1 r.2.1) (stopOf net r.1 r.2.2) := by
  obtain ⟨hc, hf, ht, h0, h1, h2, h3, h4, _, e1, e2⟩ := ride_get hn h
  rw [e1, e2]
  exact ⟨net[r.1.toNat], List.getElem_mem hc, r.2.1.toNat, r.2.2.toNat, by omega, List.getElem?_eq_getElem hf, List.getElem?_eq_getElem ht⟩
def fromOf (net : Net) (r : T3) : T3 := stopOf net r.1 r.2.1
def toOf (net : Net) (r : T3) : T3 := stopOf net r.1 r.2.2
/-- Who goes by a journey arrives where it ends. -/
theorem rides_reach {f t0 : Int} (hn : netB n net = true) (hc : 0 ≤ ch) {rs : List T3} {r : T3} (hr : rideOk net r = true) (hre : Rr (EdF net f ch) f t0 (toOf net r).1 (toOf net r).2.1) (h : ridesB net ch (some r) rs = true) : Rr (EdF net f ch) f t0 (toOf net ((r :: rs).getLast (by simp))).1 (toOf net ((r :: rs).getLast (by simp))).2.1 := by
  induction rs generalizing r with
  | nil => simpa using hre
  | cons x rs ih =>
    obtain ⟨h1, h2, h3⟩ := rides_cons.1 h
    have hl := of_decide_eq_true (h2 r rfl)
    rw [List.getLast_cons (by simp)]
    refine ih h1 (Rr_step hre ⟨fromOf net x, toOf net x, ride_hop hn h1, hl.1, rfl, rfl, rfl⟩ ?_) h3
    have : chg f ch (fromOf net x).1 ≤ ch := by unfold chg; split <;> omega
    have h4 : (toOf net r).2.1 + ch ≤ (fromOf net x).2.2 := hl.2
    omega
theorem lastRide_last {rides : List T3} (h : rides ≠ []) : lastRideOf rides = rides.getLast h := by
  unfold lastRideOf
  rw [List.getLast_eq_getElem, List.getD_eq_getElem?_getD, List.getElem?_eq_getElem]; rfl
theorem jend_case (n : Int) (net : Net) (rides : List T3) (ch : Int) : jendOk n net rides ch = false ∨ (jendOk n net rides ch = true ∧ journeyB n net rides ch = true ∧ rides ≠ [] ∧ jendTown n net rides ch = (toOf net (lastRideOf rides)).1 ∧ jendTime n net rides ch = (toOf net (lastRideOf rides)).2.1) := by
  cases h : jendOk n net rides ch
  · exact .inl rfl
  · right
    have h' := h
    simp only [jendOk, Bool.and_eq_true, decide_eq_true_eq] at h'
    refine ⟨rfl, h'.1, fun e => by rw [e] at h'; simp at h', ?_, ?_⟩
    · unfold jendTown; rw [if_pos h]; rfl
    · unfold jendTime; rw [if_pos h]; rfl
/-- FnJourneyEnd: the post is there in time. -/
theorem jend_post {rides : List T3} (h : jendOk n net rides ch = true) : ∃ (hr : 0 < rides.length), rideOk net rides[0] = true ∧
    (0 ≤ postArr n net (fromOf net rides[0]).1 (jendTown n net rides ch) (fromOf net rides[0]).2.2 ch ∧ postArr n net (fromOf net rides[0]).1 (jendTown n net rides ch) (fromOf net rides[0]).2.2 ch ≤ jendTime n net rides ch) := by
  rcases jend_case n net rides ch with e | ⟨_, hj, hne, e1, e2⟩
  · rw [h] at e; cases e
  obtain ⟨hn, hc, hr⟩ := journey_and hj
  cases rides with
  | nil => exact absurd rfl hne
  | cons r rs =>
    refine ⟨by simp, ?_⟩
    obtain ⟨h1, _, h3⟩ := rides_cons.1 hr
    have hop := ride_hop hn h1
    have ho := hop_ok hn hop
    have h0 := rides_reach (f := (fromOf net r).1) (t0 := (fromOf net r).2.2) hn hc.1 h1 (Rr_step Rr_start ⟨fromOf net r, toOf net r, hop, rfl, rfl, rfl, rfl⟩ (by unfold chg; rw [if_pos rfl]; omega)) h3
    rw [← lastRide_last (by simp)] at h0
    have hN := (netB_and hn).1
    have ho1 : 0 ≤ (fromOf net r).1 ∧ (fromOf net r).1 < n ∧ 0 ≤ (fromOf net r).2.2 ∧ (fromOf net r).2.2 ≤ 10000 := by
      unfold fromOf; omega
    have hok : postOk n net (fromOf net r).1 (fromOf net r).2.2 ch = true := by
      simp only [postOk, Bool.and_eq_true, inB, decide_eq_true_eq]
      exact ⟨⟨⟨hn, by omega⟩, by omega⟩, by omega⟩
    have hrg := post_range hok h0
    have hcp := tab_cpl hok h0
    rw [e1, e2]
    refine ⟨h1, ?_⟩
    have ea : postArr n net (fromOf net r).1 (toOf net (lastRideOf (r :: rs))).1 (fromOf net r).2.2 ch = tg (tableL n net (fromOf net r).1 (fromOf net r).2.2 ch) (toOf net (lastRideOf (r :: rs))).1 := by
      unfold postArr; rw [if_pos]
      simp only [Bool.and_eq_true, inB, decide_eq_true_eq]
      exact ⟨hok, by omega⟩
    show 0 ≤ postArr n net (fromOf net r).1 _ (fromOf net r).2.2 ch ∧ postArr n net (fromOf net r).1 _ (fromOf net r).2.2 ch ≤ _
    rw [ea]; exact hcp
/-- The last ride alone ends there too. -/
theorem jend_last {rides : List T3} (h : jendOk n net rides ch = true) : jendOk n net (rides.drop (rides.length - 1)) ch = true ∧ jendTown n net (rides.drop (rides.length - 1)) ch = jendTown n net rides ch ∧ jendTime n net (rides.drop (rides.length - 1)) ch = jendTime n net rides ch := by
  rcases jend_case n net rides ch with e | ⟨_, hj, hne, e1, e2⟩
  · rw [h] at e; cases e
  have hl : 0 < rides.length := List.length_pos_iff.2 hne
  have hd : rides.drop (rides.length - 1) = [lastRideOf rides] := by
    rw [List.drop_eq_getElem_cons (by omega), List.drop_eq_nil_of_le (by omega), lastRide_last hne, List.getLast_eq_getElem]
  have hj2 := (journey_parts hj (rides.length - 1)).2.1
  have hok : jendOk n net (rides.drop (rides.length - 1)) ch = true := by
    simp only [jendOk, Bool.and_eq_true, decide_eq_true_eq]
    exact ⟨hj2, by rw [hd]; simp⟩
  rcases jend_case n net (rides.drop (rides.length - 1)) ch with e | ⟨_, _, _, f1, f2⟩
  · rw [hok] at e; cases e
  refine ⟨hok, ?_, ?_⟩
  · rw [f1, e1, hd]; rfl
  · rw [f2, e2, hd]; rfl
end

/-- What the way is. -/
theorem way_is {n : Int} {net : Net} {f t0 ch : Int} {T : List Int} (hok : postOk n net f t0 ch = true) (hT : IsTab n net f t0 ch T) (hTf : tg T f = t0) (N : Nat) : ∀ t, 0 ≤ t → t < n → 0 ≤ tg T t → (tg T t).toNat < N →
    ridesB net ch none (wayB T f ch net t).reverse = true ∧ (t = f ↔ (wayB T f ch net t).reverse = []) ∧
    (∀ r, (wayB T f ch net t).reverse.head? = some r → (fromOf net r).1 = f ∧ t0 ≤ (fromOf net r).2.2) ∧
    (∀ r, (wayB T f ch net t).reverse.getLast? = some r → (toOf net r).1 = t ∧ (toOf net r).2.1 = tg T t) ∧
    Rk (EdF net f ch) f t0 (wayB T f ch net t).length t (tg T t) := by
  obtain ⟨hnet, hf, ht, hch, hn⟩ := postOk_and hok
  induction N with
  | zero => intro t _ _ _ h; omega
  | succ N ih =>
    intro t h0 h1 hr hN
    by_cases e : t = f
    · subst e
      rw [wayB_start]
      exact ⟨rfl, by simp, by simp, by simp, ⟨rfl, hTf⟩⟩
    · obtain ⟨c, i, k, l, a, b, hl, hc, hik, hi, hk, hb1, hb2, hrd⟩ := last_ex hok hT h0 h1 hr e
      obtain ⟨hs1, hs2, hs3, hs4, hs5⟩ := way_step hok hT hc hik hi hk hb2 hrd
      have hw := wayB_cons hok hT h0 h1 hr e hl (by rw [hs1]; exact hs2) (by rw [hs1]; exact hs3) (by rw [hs1]; exact hs4) (by rw [hs1]; exact hs5)
      rw [hs1] at hw
      obtain ⟨i1, i2, i3, i4, i5⟩ := ih a.1 hs2 hs3 hs4 (by omega)
      have hrdy := of_decide_eq_true hrd
      have hfr : fromOf net ((c : Int), (i : Int), (k : Int)) = a := stopOf_get (k := k) hc hi
      have hto : toOf net ((c : Int), (i : Int), (k : Int)) = b := stopOf_get (k := k) hc hk
      obtain ⟨hcl, hce⟩ := List.getElem?_eq_some_iff.1 hc
      have hkl := (List.getElem?_eq_some_iff.1 hk).1
      have hco : coachOf net (c : Int) = l := by
        unfold coachOf; rw [Int.toNat_natCast, List.getD_eq_getElem?_getD, hc]; rfl
      have hride : rideOk net ((c : Int), (i : Int), (k : Int)) = true := by
        refine decide_eq_true ⟨by simp, by simp; omega, by simp, by simp; omega, ?_⟩
        simp only [hco]; omega
      rw [hw, List.reverse_cons]
      refine ⟨rides_snoc i1 hride (fun a e => by cases e) (fun x hx => ?_), ⟨fun h => absurd h e, fun h => by simp at h⟩, fun r hr' => ?_, fun r hr' => ?_, ?_⟩
      · obtain ⟨g1, g2⟩ := i4 x hx
        have hne : a.1 ≠ f := fun h => by rw [i2.1 h] at hx; simp at hx
        refine decide_eq_true ⟨?_, ?_⟩
        · show (toOf net x).1 = (fromOf net ((c : Int), (i : Int), (k : Int))).1
          rw [g1, hfr]
        · show (toOf net x).2.1 + ch ≤ (fromOf net ((c : Int), (i : Int), (k : Int))).2.2
          rw [g2, hfr]
          have : chg f ch a.1 = ch := by unfold chg; rw [if_neg hne]
          omega
      · by_cases ha : a.1 = f
        · rw [i2.1 ha] at hr'
          simp only [List.nil_append, List.head?_cons, Option.some.injEq] at hr'
          subst hr'
          rw [hfr]
          refine ⟨ha, ?_⟩
          have := chg_nn (f := f) (v := a.1) hch.1
          have h2 := hrdy.2
          rw [ha, hTf] at h2
          have h3 : chg f ch f = 0 := by unfold chg; rw [if_pos rfl]
          omega
        · cases hrev : (wayB T f ch net a.1).reverse with
          | nil => exact absurd (i2.2 hrev) ha
          | cons y ys =>
            rw [hrev] at hr' i3
            exact i3 r (by simpa using hr')
      · simp only [List.getLast?_append, List.getLast?_singleton, Option.some_or, Option.some.injEq] at hr'
        subst hr'
        rw [hto]
        exact ⟨hb1, hb2⟩
      · have e1 : Rk (EdF net f ch) f t0 ((wayB T f ch net a.1).length + 1) b.1 b.2.1 := .inr ⟨a.1, tg T a.1, a.2.2 - chg f ch a.1, i5, ⟨a, b, ⟨l, List.mem_of_getElem? hc, i, k, hik, hi, hk⟩, rfl, rfl, rfl, rfl⟩, by omega⟩
        rw [hb2, hb1] at e1
        rw [List.length_cons]; exact e1

end Go.Proofs.Ytdiichfdffhdaaa
