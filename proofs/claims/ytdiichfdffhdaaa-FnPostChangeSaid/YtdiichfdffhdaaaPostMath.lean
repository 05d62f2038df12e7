/-
  Plain words on the post: what a letter reaches, the reference's rounds, and that its table is the least one.
-/
import Derived.Test.YtdiichfdffhdaaaLeast
import Derived.Test.YtdiichfdffhdaaaJourneyMath
namespace Go.Proofs.Ytdiichfdffhdaaa

theorem stopsFrom_ok {n last : Int} {pre l : List T3} (h : stopsFrom n last pre l = true) (j : Nat) {b : T3} (hj : l[j]? = some b) : last < b.2.1 ∧ (∀ p ∈ pre, p.1 ≠ b.1) ∧ 0 ≤ b.1 ∧ b.1 < n ∧ b.2.1 ≤ b.2.2 ∧ b.2.2 ≤ 10000 := by
  induction l generalizing last pre j with
  | nil => simp at hj
  | cons s r ih =>
    simp only [stopsFrom, Bool.and_eq_true, stopOk, decide_eq_true_eq, Bool.not_eq_true', hasTown, List.any_eq_false] at h
    obtain ⟨⟨h1, h2⟩, h3⟩ := h
    cases j with
    | zero =>
      simp only [List.getElem?_cons_zero, Option.some.injEq] at hj
      subst hj
      exact ⟨by omega, fun p hp e => h2 p hp e, by omega, by omega, by omega, by omega⟩
    | succ j =>
      simp only [List.getElem?_cons_succ] at hj
      obtain ⟨a1, a2, a3⟩ := ih h3 j hj
      exact ⟨by omega, fun p hp => a2 p (by simp [hp]), a3⟩
theorem stopsFrom_pair {n last : Int} {pre l : List T3} (h : stopsFrom n last pre l = true) {i j : Nat} (hij : i < j) {a b : T3} (hi : l[i]? = some a) (hj : l[j]? = some b) : a.2.2 < b.2.1 ∧ a.1 ≠ b.1 := by
  induction l generalizing last pre i j with
  | nil => simp at hj
  | cons s r ih =>
    simp only [stopsFrom, Bool.and_eq_true] at h
    cases j with
    | zero => omega
    | succ j =>
      simp only [List.getElem?_cons_succ] at hj
      cases i with
      | zero =>
        simp only [List.getElem?_cons_zero, Option.some.injEq] at hi
        subst hi
        have := stopsFrom_ok h.2 j hj
        exact ⟨by omega, this.2.1 s (by simp)⟩
      | succ i =>
        simp only [List.getElem?_cons_succ] at hi
        exact ih h.2 (by omega) hi hj
theorem stopsB_pair {n : Int} {l : List T3} (h : stopsB n l = true) {i j : Nat} (hij : i < j) {a b : T3} (hi : l[i]? = some a) (hj : l[j]? = some b) : a.2.2 < b.2.1 ∧ a.1 ≠ b.1 := by
  simp only [stopsB, Bool.and_eq_true] at h; exact stopsFrom_pair h.2 hij hi hj
theorem stopsB_one {n : Int} {l : List T3} (h : stopsB n l = true) {i : Nat} {a : T3} (hi : l[i]? = some a) : 0 ≤ a.1 ∧ a.1 < n ∧ 0 ≤ a.2.1 ∧ a.2.1 ≤ a.2.2 ∧ a.2.2 ≤ 10000 := by
  simp only [stopsB, Bool.and_eq_true] at h
  have := stopsFrom_ok h.2 i hi
  omega
theorem stopsB_inj {n : Int} {l : List T3} (h : stopsB n l = true) {i j : Nat} {a b : T3} (hi : l[i]? = some a) (hj : l[j]? = some b) (e : a.1 = b.1) : i = j := by
  rcases Nat.lt_trichotomy i j with h1 | h1 | h1
  · exact absurd e (stopsB_pair h h1 hi hj).2
  · exact h1
  · exact absurd e.symm (stopsB_pair h h1 hj hi).2

/-- A ride: from a stop of a coach to a later one. -/
def Hop (net : Net) (a b : T3) : Prop := ∃ l ∈ net, ∃ i j : Nat, i < j ∧ l[i]? = some a ∧ l[j]? = some b
theorem netB_mem {n : Int} {net : Net} (h : netB n net = true) {l : List T3} (hl : l ∈ net) : stopsB n l = true := by
  obtain ⟨k, hk, rfl⟩ := List.getElem_of_mem hl
  exact (netB_and h).2.2 k hk
theorem hop_ok {n : Int} {net : Net} (h : netB n net = true) {a b : T3} (hh : Hop net a b) : 0 ≤ a.1 ∧ a.1 < n ∧ 0 ≤ b.1 ∧ b.1 < n ∧ 0 ≤ a.2.1 ∧ a.2.1 ≤ a.2.2 ∧ a.2.2 < b.2.1 ∧ b.2.1 ≤ b.2.2 ∧ b.2.2 ≤ 10000 ∧ a.1 ≠ b.1 := by
  obtain ⟨l, hl, i, j, hij, hi, hj⟩ := hh
  have hs := netB_mem h hl
  have h1 := stopsB_one hs hi
  have h2 := stopsB_one hs hj
  have h3 := stopsB_pair hs hij hi hj
  exact ⟨by omega, by omega, by omega, by omega, by omega, by omega, by omega, by omega, by omega, h3.2⟩
def chg (f ch v : Int) : Int := if v = f then 0 else ch
def EdF (net : Net) (f ch : Int) (u thr v x : Int) : Prop := ∃ a b, Hop net a b ∧ u = a.1 ∧ thr = a.2.2 - chg f ch a.1 ∧ v = b.1 ∧ x = b.2.1
theorem chg_nn {f ch v : Int} (h : 0 ≤ ch) : 0 ≤ chg f ch v := by unfold chg; split <;> omega
theorem edF_ok {n : Int} {net : Net} {f ch : Int} (h : netB n net = true) (hc : 0 ≤ ch) : EdOk (EdF net f ch) n 10001 := by
  rintro u thr v x ⟨a, b, hh, rfl, rfl, rfl, rfl⟩
  have := hop_ok h hh
  have := chg_nn (f := f) (v := a.1) hc
  omega

/-- The entry of a table for a town, -1 where there is none. -/
def tg (T : List Int) (v : Int) : Int := if v < 0 then -1 else T.getD v.toNat (-1)
def keyF (T : List Int) (v : Int) : Int := if tg T v < 0 then 10001 else tg T v
def rdyB (T : List Int) (f ch : Int) (s : T3) : Bool := decide (0 ≤ tg T s.1 ∧ tg T s.1 + chg f ch s.1 ≤ s.2.2)
def TabOk (n : Int) (T : List Int) : Prop := T.length = n.toNat ∧ ∀ x ∈ T, -1 ≤ x ∧ x ≤ 10000
theorem tg_set {T : List Int} {w x v : Int} (h0 : 0 ≤ w) (h1 : w.toNat < T.length) : tg (T.set w.toNat x) v = if v = w then x else tg T v := by
  unfold tg
  by_cases hv : v < 0
  · rw [if_pos hv, if_pos hv, if_neg (by omega)]
  · rw [if_neg hv, if_neg hv, List.getD_eq_getElem?_getD, List.getD_eq_getElem?_getD]
    by_cases e : v = w
    · subst e; rw [if_pos rfl, List.getElem?_set_self h1]; rfl
    · rw [if_neg e, List.getElem?_set_ne (by omega)]
theorem tg_get {T : List Int} {v : Int} (h0 : 0 ≤ v) (h1 : v.toNat < T.length) : tg T v = T[v.toNat] := by
  unfold tg; rw [if_neg (by omega), List.getD_eq_getElem?_getD, List.getElem?_eq_getElem h1]; rfl
theorem keyF_set {T : List Int} {w x : Int} (h0 : 0 ≤ w) (h1 : w.toNat < T.length) (hx : 0 ≤ x) : keyF (T.set w.toNat x) = Go.Proofs.Ytdiichfdffhdaaa.put (keyF T) w x := by
  funext v
  unfold keyF Go.Proofs.Ytdiichfdffhdaaa.put
  rw [tg_set h0 h1]
  by_cases e : v = w
  · rw [if_pos e, if_pos e, if_neg (by omega)]
  · rw [if_neg e, if_neg e]
theorem TabOk.set {n : Int} {T : List Int} (h : TabOk n T) (k : Nat) {x : Int} (hx : -1 ≤ x ∧ x ≤ 10000) : TabOk n (T.set k x) :=
  ⟨by rw [List.length_set]; exact h.1, fun y hy => by
    rcases List.mem_or_eq_of_mem_set hy with hy | rfl
    · exact h.2 y hy
    · exact hx⟩
theorem TabOk.tg {n : Int} {T : List Int} (h : TabOk n T) {v : Int} (h0 : 0 ≤ v) (h1 : v < n) : -1 ≤ Go.Proofs.Ytdiichfdffhdaaa.tg T v ∧ Go.Proofs.Ytdiichfdffhdaaa.tg T v ≤ 10000 := by
  have hl : v.toNat < T.length := by rw [h.1]; omega
  rw [tg_get h0 hl]; exact h.2 _ (List.getElem_mem hl)
theorem TabOk.key {n : Int} {T : List Int} (h : TabOk n T) {v : Int} (h0 : 0 ≤ v) (h1 : v < n) : keyF T v ≤ 10001 ∧ 0 ≤ keyF T v := by
  have := h.tg h0 h1
  unfold keyF; split <;> omega
theorem keyF_lt {T : List Int} {v : Int} (h : keyF T v < 10001) : 0 ≤ tg T v ∧ keyF T v = tg T v := by
  unfold keyF at *
  by_cases e : tg T v < 0
  · rw [if_pos e] at h; omega
  · rw [if_neg e]; exact ⟨by omega, rfl⟩
theorem keyF_le {T : List Int} {v x : Int} (h : keyF T v ≤ x) (hx : x ≤ 10000) : 0 ≤ tg T v ∧ tg T v ≤ x := by
  obtain ⟨h1, h2⟩ := keyF_lt (T := T) (v := v) (by omega); omega
theorem keyF_nn {T : List Int} {v : Int} (h : 0 ≤ tg T v) : keyF T v = tg T v := by unfold keyF; rw [if_neg (by omega)]
theorem rdy_key {T : List Int} {f ch : Int} {s : T3} (hs : s.2.2 ≤ 10000) (hc : 0 ≤ ch) : rdyB T f ch s = true ↔ keyF T s.1 ≤ s.2.2 - chg f ch s.1 := by
  have := chg_nn (f := f) (v := s.1) hc
  unfold rdyB
  rw [decide_eq_true_eq]
  constructor
  · intro h; rw [keyF_nn h.1]; omega
  · intro h; have := keyF_le h (by omega); omega
/-- The least table. -/
def IsTab (n : Int) (net : Net) (f t0 ch : Int) (T : List Int) : Prop := TabOk n T ∧ IsMin n 10001 (Rr (EdF net f ch) f t0) (keyF T)
def IsTabK (n : Int) (net : Net) (f t0 ch : Int) (k : Nat) (T : List Int) : Prop := TabOk n T ∧ IsMin n 10001 (Rk (EdF net f ch) f t0 k) (keyF T)
theorem tab_eq {n : Int} {P : Int → Int → Prop} {T T' : List Int} (h : TabOk n T) (h' : TabOk n T') (m : IsMin n 10001 P (keyF T)) (m' : IsMin n 10001 P (keyF T')) : T = T' := by
  apply List.ext_getElem
  · rw [h.1, h'.1]
  · intro i h1 h2
    have hi : (i : Int) < n := by have := h.1; omega
    have e := m.eq m' (i : Int) (by omega) hi
    have a := h.tg (v := (i : Int)) (by omega) hi
    have a' := h'.tg (v := (i : Int)) (by omega) hi
    have g := tg_get (T := T) (v := (i : Int)) (by omega) (by simpa using h1)
    have g' := tg_get (T := T') (v := (i : Int)) (by omega) (by simpa using h2)
    simp only [Int.toNat_natCast] at g g'
    rw [← g, ← g']
    unfold keyF at e
    split at e <;> split at e <;> omega
theorem IsTab.eq {n : Int} {net : Net} {f t0 ch : Int} {T T' : List Int} (h : IsTab n net f t0 ch T) (h' : IsTab n net f t0 ch T') : T = T' := tab_eq h.1 h'.1 h.2 h'.2
theorem IsTabK.eq {n : Int} {net : Net} {f t0 ch : Int} {k : Nat} {T T' : List Int} (h : IsTabK n net f t0 ch k T) (h' : IsTabK n net f t0 ch k T') : T = T' := tab_eq h.1 h'.1 h.2 h'.2

/-- One coach: the reference notes where it leads; g: the table by which a letter is ready. -/
def rideL (g : List Int → List Int) (f ch : Int) : Bool → List T3 → List Int → List Int
  | _, [], T => T
  | on, s :: r, T =>
    let T' := if on && (decide (tg T s.1 < 0) || decide (s.2.1 < tg T s.1)) then T.set s.1.toNat s.2.1 else T
    rideL g f ch (on || rdyB (g T') f ch s) r T'
def roundL (g : List Int → List Int) (f ch : Int) (net : Net) (T : List Int) : List Int := net.foldl (fun T l => rideL g f ch false l T) T
def iterL (F : List Int → List Int) : Nat → List Int → List Int
  | 0, T => T
  | k + 1, T => F (iterL F k T)
def initL (n f t0 : Int) : List Int := (List.replicate n.toNat (-1)).set f.toNat t0
def tableL (n : Int) (net : Net) (f t0 ch : Int) : List Int := iterL (roundL id f ch net) (n.toNat + 1) (initL n f t0)
def stepL (f ch : Int) (net : Net) (T : List Int) : List Int := roundL (fun _ => T) f ch net T
def tabK (n : Int) (net : Net) (f t0 ch : Int) (k : Nat) : List Int := iterL (stepL f ch net) k (initL n f t0)
def noted (on : Bool) (s : T3) (T : List Int) : List Int := if on && (decide (tg T s.1 < 0) || decide (s.2.1 < tg T s.1)) then T.set s.1.toNat s.2.1 else T
theorem rideL_cons (g : List Int → List Int) (f ch : Int) (on : Bool) (s : T3) (r : List T3) (T : List Int) : rideL g f ch on (s :: r) T = rideL g f ch (on || rdyB (g (noted on s T)) f ch s) r (noted on s T) := rfl
def LeT (T' T : List Int) : Prop := ∀ v, keyF T' v ≤ keyF T v
def StopR (n : Int) (s : T3) : Prop := 0 ≤ s.1 ∧ s.1 < n ∧ 0 ≤ s.2.1 ∧ s.2.1 ≤ s.2.2 ∧ s.2.2 ≤ 10000
theorem noted_ok {n : Int} {T : List Int} (h : TabOk n T) (on : Bool) {s : T3} (hs : StopR n s) : TabOk n (noted on s T) := by
  unfold noted; unfold StopR at hs
  split
  · exact h.set _ (by omega)
  · exact h
theorem noted_le {n : Int} {T : List Int} (h : TabOk n T) (on : Bool) {s : T3} (hs : StopR n s) : LeT (noted on s T) T ∧ (on = true → keyF (noted on s T) s.1 ≤ s.2.1) := by
  unfold StopR at hs
  have hl : s.1.toNat < T.length := by rw [h.1]; omega
  unfold noted
  split
  · rename_i hc
    rw [Bool.and_eq_true, Bool.or_eq_true, decide_eq_true_eq, decide_eq_true_eq] at hc
    refine ⟨fun v => ?_, fun _ => ?_⟩
    · rw [keyF_set hs.1 hl (by omega)]
      unfold Go.Proofs.Ytdiichfdffhdaaa.put
      by_cases e : v = s.1
      · rw [if_pos e]; subst e; unfold keyF; split <;> omega
      · rw [if_neg e]; exact Int.le_refl _
    · rw [keyF_set hs.1 hl (by omega)]
      unfold Go.Proofs.Ytdiichfdffhdaaa.put
      rw [if_pos rfl]; exact Int.le_refl _
  · rename_i hc
    refine ⟨fun v => Int.le_refl _, fun hon => ?_⟩
    rw [hon, Bool.true_and, Bool.or_eq_true, decide_eq_true_eq, decide_eq_true_eq] at hc
    unfold keyF; split <;> omega
theorem ride_ok {n : Int} {g : List Int → List Int} {f ch : Int} {l : List T3} (hl : ∀ s ∈ l, StopR n s) (on : Bool) {T : List Int} (h : TabOk n T) : TabOk n (rideL g f ch on l T) ∧ LeT (rideL g f ch on l T) T := by
  induction l generalizing on T with
  | nil => exact ⟨h, fun _ => Int.le_refl _⟩
  | cons s r ih =>
    rw [rideL_cons]
    have h1 := noted_ok h on (hl s (by simp))
    have h2 := noted_le h on (hl s (by simp))
    have h3 := ih (fun x hx => hl x (by simp [hx])) (on || rdyB (g (noted on s T)) f ch s) h1
    exact ⟨h3.1, fun v => Int.le_trans (h3.2 v) (h2.1 v)⟩
theorem rdy_mono {T T' : List Int} {f ch n : Int} {s : T3} (h : LeT T' T) (hs : StopR n s) (hc : 0 ≤ ch) (hr : rdyB T f ch s = true) : rdyB T' f ch s = true := by
  have := h s.1
  rw [rdy_key hs.2.2.2.2 hc] at hr ⊢
  omega
/-- A coach leads on whoever is ready at one of its stops. -/
theorem ride_cover {n : Int} {g : List Int → List Int} {f ch : Int} (hg : ∀ T T', LeT T' T → LeT (g T') (g T)) (hc : 0 ≤ ch) {l : List T3} (hl : ∀ s ∈ l, StopR n s) (on : Bool) {T : List Int} (h : TabOk n T) :
    (on = true → ∀ b ∈ l, keyF (rideL g f ch on l T) b.1 ≤ b.2.1) ∧ ∀ (i j : Nat) (a b : T3), i < j → l[i]? = some a → l[j]? = some b → rdyB (g T) f ch a = true → keyF (rideL g f ch on l T) b.1 ≤ b.2.1 := by
  induction l generalizing on T with
  | nil => exact ⟨fun _ b hb => by simp at hb, fun i j a b _ hi => by simp at hi⟩
  | cons s r ih =>
    rw [rideL_cons]
    have hss := hl s (by simp)
    have hlr : ∀ x ∈ r, StopR n x := fun x hx => hl x (by simp [hx])
    have h1 := noted_ok h on hss
    have h2 := noted_le h on hss
    have h3 := ih hlr (on || rdyB (g (noted on s T)) f ch s) h1
    have h4 := ride_ok (g := g) (f := f) (ch := ch) hlr (on || rdyB (g (noted on s T)) f ch s) h1
    refine ⟨fun hon b hb => ?_, fun i j a b hij hi hj hr => ?_⟩
    · rcases List.mem_cons.1 hb with rfl | hb
      · exact Int.le_trans (h4.2 _) (h2.2 hon)
      · exact h3.1 (by simp [hon]) b hb
    · cases j with
      | zero => omega
      | succ j =>
        rw [List.getElem?_cons_succ] at hj
        cases i with
        | zero =>
          simp only [List.getElem?_cons_zero, Option.some.injEq] at hi
          subst hi
          exact h3.1 (by rw [rdy_mono (hg _ _ h2.1) hss hc hr]; simp) b (List.mem_of_getElem? hj)
        | succ i =>
          rw [List.getElem?_cons_succ] at hi
          have hsa := hlr a (List.mem_of_getElem? hi)
          exact h3.2 i j a b (by omega) hi hj (rdy_mono (hg _ _ h2.1) hsa hc hr)
def SndT (n : Int) (P : Int → Int → Prop) (T : List Int) : Prop := ∀ v, 0 ≤ v → v < n → 0 ≤ tg T v → P v (tg T v)
theorem sndT_set {n : Int} {P : Int → Int → Prop} {T : List Int} (h : SndT n P T) {w x : Int} (h0 : 0 ≤ w) (h1 : w.toNat < T.length) (hp : P w x) : SndT n P (T.set w.toNat x) := by
  intro v v0 v1
  rw [tg_set h0 h1]
  by_cases e : v = w
  · rw [if_pos e]; subst e; exact fun _ => hp
  · rw [if_neg e]; exact h v v0 v1
theorem ride_sound {n : Int} {net : Net} {g : List Int → List Int} {f ch : Int} {P Q : Int → Int → Prop} (hstep : ∀ a b y, Hop net a b → Q a.1 y → y + chg f ch a.1 ≤ a.2.2 → P b.1 b.2.1) (hg : ∀ T, SndT n P T → SndT n Q (g T))
    {l : List T3} (hl : l ∈ net) (hls : ∀ s ∈ l, StopR n s) (k : Nat) (on : Bool) (hon : on = true → ∃ i a y, i < k ∧ l[i]? = some a ∧ Q a.1 y ∧ y + chg f ch a.1 ≤ a.2.2) {T : List Int} (h : TabOk n T) (hs : SndT n P T) : SndT n P (rideL g f ch on (l.drop k) T) := by
  generalize hm : l.length - k = m
  induction m generalizing k on T with
  | zero => rw [List.drop_eq_nil_of_le (by omega)]; exact hs
  | succ m ih =>
    have hk : k < l.length := by omega
    rw [List.drop_eq_getElem_cons hk, rideL_cons]
    have hss := hls l[k] (List.getElem_mem hk)
    have hlt : l[k].1.toNat < T.length := by rw [h.1]; unfold StopR at hss; omega
    have h2 : SndT n P (noted on l[k] T) := by
      unfold noted
      split
      · rename_i hc
        rw [Bool.and_eq_true] at hc
        obtain ⟨i, a, y, hi, ha, hq, hy⟩ := hon hc.1
        exact sndT_set hs hss.1 hlt (hstep a l[k] y ⟨l, hl, i, k, hi, ha, List.getElem?_eq_getElem hk⟩ hq hy)
      · exact hs
    refine ih (k + 1) _ ?_ (noted_ok h on hss) h2 (by omega)
    intro ho
    rw [Bool.or_eq_true] at ho
    rcases ho with ho | ho
    · obtain ⟨i, a, y, hi, hr⟩ := hon ho
      exact ⟨i, a, y, by omega, hr⟩
    · have := of_decide_eq_true ho
      exact ⟨k, l[k], _, by omega, List.getElem?_eq_getElem hk, hg _ h2 _ hss.1 hss.2.1 this.1, this.2⟩
theorem net_stops {n : Int} {net : Net} (h : netB n net = true) {l : List T3} (hl : l ∈ net) : ∀ s ∈ l, StopR n s := by
  intro s hs
  obtain ⟨i, hi⟩ := List.getElem?_of_mem hs
  exact stopsB_one (netB_mem h hl) hi
section
variable {n : Int} {net : Net} {g : List Int → List Int} {f ch : Int} {P Q : Int → Int → Prop}
theorem fold_round (hg : ∀ T T', LeT T' T → LeT (g T') (g T)) (hc : 0 ≤ ch) (ls : Net) (hls : ∀ l ∈ ls, ∀ s ∈ l, StopR n s) {T : List Int} (h : TabOk n T) :
    TabOk n (roundL g f ch ls T) ∧ LeT (roundL g f ch ls T) T ∧ ∀ a b, Hop ls a b → rdyB (g T) f ch a = true → keyF (roundL g f ch ls T) b.1 ≤ b.2.1 := by
  induction ls generalizing T with
  | nil => exact ⟨h, fun _ => Int.le_refl _, fun a b hh => by obtain ⟨l, hl, _⟩ := hh; simp at hl⟩
  | cons l r ih =>
    have e : roundL g f ch (l :: r) T = roundL g f ch r (rideL g f ch false l T) := rfl
    rw [e]
    have hll := hls l (by simp)
    have h1 := ride_ok (g := g) (f := f) (ch := ch) hll false h
    have h2 := ih (fun l hl => hls l (by simp [hl])) h1.1
    refine ⟨h2.1, fun v => Int.le_trans (h2.2.1 v) (h1.2 v), fun a b hh hr => ?_⟩
    obtain ⟨l', hl', i, j, hij, hi, hj⟩ := hh
    rcases List.mem_cons.1 hl' with rfl | hl'
    · exact Int.le_trans (h2.2.1 _) ((ride_cover hg hc hll false h).2 i j a b hij hi hj hr)
    · exact h2.2.2 a b ⟨l', hl', i, j, hij, hi, hj⟩ (rdy_mono (hg _ _ h1.2) (hls l' (by simp [hl']) a (List.mem_of_getElem? hi)) hc hr)
theorem fold_sound (hstep : ∀ a b y, Hop net a b → Q a.1 y → y + chg f ch a.1 ≤ a.2.2 → P b.1 b.2.1) (hg : ∀ T, SndT n P T → SndT n Q (g T)) (ls : Net) (hsub : ∀ l ∈ ls, l ∈ net) (hls : ∀ l ∈ ls, ∀ s ∈ l, StopR n s) {T : List Int} (h : TabOk n T) (hs : SndT n P T) : SndT n P (roundL g f ch ls T) := by
  induction ls generalizing T with
  | nil => exact hs
  | cons l r ih =>
    have e : roundL g f ch (l :: r) T = roundL g f ch r (rideL g f ch false l T) := rfl
    rw [e]
    have hll := hls l (by simp)
    refine ih (fun l hl => hsub l (by simp [hl])) (fun l hl => hls l (by simp [hl])) (ride_ok hll false h).1 ?_
    have := ride_sound (n := n) (g := g) hstep hg (hsub l (by simp)) hll 0 false (fun h => by cases h) h hs
    simpa using this
end
def postOk (n : Int) (net : Net) (f t0 ch : Int) : Bool := netB n net && inB f 0 (n - 1) && inB t0 0 10000 && inB ch 0 300
theorem postOk_and {n : Int} {net : Net} {f t0 ch : Int} (h : postOk n net f t0 ch = true) : netB n net = true ∧ (0 ≤ f ∧ f < n) ∧ (0 ≤ t0 ∧ t0 ≤ 10000) ∧ (0 ≤ ch ∧ ch ≤ 300) ∧ (1 ≤ n ∧ n ≤ 8) := by
  simp only [postOk, Bool.and_eq_true, inB, decide_eq_true_eq] at h
  have := (netB_and h.1.1.1).1
  exact ⟨h.1.1.1, by omega, by omega, by omega, this⟩
section
variable {n : Int} {net : Net} {f t0 ch : Int}
theorem init_ok (h : postOk n net f t0 ch = true) : TabOk n (initL n f t0) := by
  obtain ⟨_, hf, ht, _, _⟩ := postOk_and h
  refine TabOk.set ⟨by simp, fun x hx => ?_⟩ _ (by omega)
  have := List.eq_of_mem_replicate hx
  omega
theorem init_tg (h : postOk n net f t0 ch = true) {v : Int} (h0 : 0 ≤ v) (h1 : v < n) : tg (initL n f t0) v = if v = f then t0 else -1 := by
  obtain ⟨_, hf, ht, _, _⟩ := postOk_and h
  unfold initL
  rw [tg_set hf.1 (by rw [List.length_replicate]; omega), tg_get h0 (by rw [List.length_replicate]; omega), List.getElem_replicate]
theorem init_isTabK (h : postOk n net f t0 ch = true) : IsTabK n net f t0 ch 0 (initL n f t0) := by
  obtain ⟨_, hf, ht, _, _⟩ := postOk_and h
  refine ⟨init_ok h, fun v h0 h1 => ⟨((init_ok h).key h0 h1).1, fun hk => ?_, fun x hx => ?_⟩⟩
  · obtain ⟨k1, k2⟩ := keyF_lt hk
    rw [init_tg h h0 h1] at k1 k2
    by_cases e : v = f
    · rw [if_pos e] at k2; exact ⟨e, k2⟩
    · rw [if_neg e] at k1; omega
  · obtain ⟨rfl, rfl⟩ := hx
    have := init_tg h h0 h1
    rw [if_pos rfl] at this
    rw [keyF_nn (by omega), this]; exact Int.le_refl _
theorem step_isTabK (h : postOk n net f t0 ch = true) {k : Nat} {T : List Int} (hT : IsTabK n net f t0 ch k T) : IsTabK n net f t0 ch (k + 1) (stepL f ch net T) := by
  obtain ⟨hn, hf, ht, hc, _⟩ := postOk_and h
  have hls : ∀ l ∈ net, ∀ s ∈ l, StopR n s := fun l hl => net_stops hn hl
  have h1 := fold_round (g := fun _ => T) (f := f) (fun _ _ _ _ => Int.le_refl _) hc.1 net hls hT.1
  have hsT : SndT n (Rk (EdF net f ch) f t0 k) T := fun v h0 h1 hv => by
    have h2 := (hT.2 v h0 h1).2.1 (by rw [keyF_nn hv]; have := hT.1.tg h0 h1; omega)
    rwa [keyF_nn hv] at h2
  have h2 := fold_sound (n := n) (net := net) (g := fun _ => T) (f := f) (ch := ch) (P := Rk (EdF net f ch) f t0 (k + 1)) (Q := Rk (EdF net f ch) f t0 k)
    (fun a b y hh hq hy => .inr ⟨a.1, y, a.2.2 - chg f ch a.1, hq, ⟨a, b, hh, rfl, rfl, rfl, rfl⟩, by omega⟩) (fun _ _ => hsT) net (fun _ h => h) hls hT.1 (fun v h0 h1 hv => .inl (hsT v h0 h1 hv))
  refine ⟨h1.1, fun v h0 h1' => ⟨(h1.1.key h0 h1').1, fun hk => ?_, fun x hx => ?_⟩⟩
  · obtain ⟨k1, k2⟩ := keyF_lt hk
    have := h2 v h0 h1' k1
    show Rk (EdF net f ch) f t0 (k + 1) v (keyF (stepL f ch net T) v)
    rw [k2]; exact this
  · rcases hx with hx | ⟨u, y, thr, hu, ⟨a, b, hh, rfl, rfl, rfl, rfl⟩, hy⟩
    · exact Int.le_trans (h1.2.1 v) ((hT.2 v h0 h1').2.2 x hx)
    · have ho := hop_ok hn hh
      refine h1.2.2 a b hh ((rdy_key (by omega) hc.1).2 ?_)
      have := (hT.2 a.1 (by omega) (by omega)).2.2 y hu
      omega
theorem tabK_is (h : postOk n net f t0 ch = true) (k : Nat) : IsTabK n net f t0 ch k (tabK n net f t0 ch k) := by
  induction k with
  | zero => exact init_isTabK h
  | succ k ih => exact step_isTabK h ih
theorem tableL_is (h : postOk n net f t0 ch = true) : IsTab n net f t0 ch (tableL n net f t0 ch) := by
  obtain ⟨hn, hf, ht, hc, _⟩ := postOk_and h
  have hls : ∀ l ∈ net, ∀ s ∈ l, StopR n s := fun l hl => net_stops hn hl
  have key : ∀ k, TabOk n (iterL (roundL id f ch net) k (initL n f t0)) ∧ SndT n (Rr (EdF net f ch) f t0) (iterL (roundL id f ch net) k (initL n f t0)) ∧ ∀ v x, Rk (EdF net f ch) f t0 k v x → keyF (iterL (roundL id f ch net) k (initL n f t0)) v ≤ x := by
    intro k
    induction k with
    | zero =>
      refine ⟨init_ok h, fun v h0 h1 hv => ?_, fun v x hx => ?_⟩
      · have e := init_tg h h0 h1
        show Rr (EdF net f ch) f t0 v (tg (initL n f t0) v)
        by_cases ev : v = f
        · rw [if_pos ev] at e; rw [e, ev]; exact Rr_start
        · rw [if_neg ev] at e
          have hv' : 0 ≤ tg (initL n f t0) v := hv
          omega
      · obtain ⟨rfl, rfl⟩ := hx
        exact ((init_isTabK h).2 v hf.1 hf.2).2.2 x ⟨rfl, rfl⟩
    | succ k ih =>
      obtain ⟨i1, i2, i3⟩ := ih
      have h1 := fold_round (g := id) (f := f) (fun _ _ h => h) hc.1 net hls i1
      have h2 := fold_sound (n := n) (net := net) (g := id) (f := f) (ch := ch) (P := Rr (EdF net f ch) f t0) (Q := Rr (EdF net f ch) f t0)
        (fun a b y hh hq hy => Rr_step hq ⟨a, b, hh, rfl, rfl, rfl, rfl⟩ (by omega)) (fun _ h => h) net (fun _ h => h) hls i1 i2
      refine ⟨h1.1, h2, fun v x hx => ?_⟩
      rcases hx with hx | ⟨u, y, thr, hu, ⟨a, b, hh, rfl, rfl, rfl, rfl⟩, hy⟩
      · exact Int.le_trans (h1.2.1 v) (i3 v x hx)
      · have ho := hop_ok hn hh
        refine h1.2.2 a b hh ((rdy_key (by omega) hc.1).2 ?_)
        have := i3 a.1 y hu
        show keyF (iterL (roundL id f ch net) k (initL n f t0)) a.1 ≤ _
        omega
  obtain ⟨k1, k2, k3⟩ := key (n.toNat + 1)
  refine ⟨k1, least_rounds (edF_ok hn hc.1) hf.1 hf.2 ht.1 (by omega) (by omega) (fun v h0 h1 => (k1.key h0 h1).1) (fun v h0 h1 hk => ?_) k3⟩
  obtain ⟨g1, g2⟩ := keyF_lt hk
  have := k2 v h0 h1 g1
  rw [g2]; exact this
theorem table_is {T : List Int} (h : postOk n net f t0 ch = true) (hT : IsTab n net f t0 ch T) : T = tableL n net f t0 ch := hT.eq (tableL_is h)
end

end Go.Proofs.Ytdiichfdffhdaaa
