/-
  Plain words on the latest times at which a letter can leave: the search backwards and the reference's trials find the same.
-/
import Derived.Test.YtdiichfdffhdaaaPostMath
namespace Go.Proofs.Ytdiichfdffhdaaa

def thrB (last ch : Int) (b : T3) : Int := if b.1 = last then 10000 - b.2.1 else 10000 - b.2.1 - ch
def EdB (net : Net) (last ch : Int) (u thr v x : Int) : Prop := ∃ a b, Hop net a b ∧ u = b.1 ∧ thr = thrB last ch b ∧ v = a.1 ∧ v ≠ last ∧ x = 10000 - a.2.2
theorem edB_ok {n : Int} {net : Net} {last ch : Int} (h : netB n net = true) (hc : 0 ≤ ch) : EdOk (EdB net last ch) n 10001 := by
  rintro u thr v x ⟨a, b, hh, rfl, rfl, rfl, _, rfl⟩
  have := hop_ok h hh
  unfold thrB
  split <;> omega
def keyB (last till : Int) (T : List Int) (v : Int) : Int := if v = last then 10000 - till else 10000 - tg T v
def inTimeB (T : List Int) (last till ch : Int) (s : T3) : Bool := decide (keyB last till T s.1 ≤ thrB last ch s)
theorem keyB_set {T : List Int} {last till w x : Int} (h0 : 0 ≤ w) (h1 : w.toNat < T.length) (hw : w ≠ last) : keyB last till (T.set w.toNat x) = Go.Proofs.Ytdiichfdffhdaaa.put (keyB last till T) w (10000 - x) := by
  funext v
  unfold keyB Go.Proofs.Ytdiichfdffhdaaa.put
  rw [tg_set h0 h1]
  by_cases e : v = w
  · subst e; rw [if_pos rfl, if_neg hw, if_pos rfl]
  · rw [if_neg e, if_neg e]
/-- The towns from which a letter is in time, with the latest times. -/
def IsLeave (n : Int) (net : Net) (last till ch : Int) (T : List Int) : Prop := TabOk n T ∧ IsMin n 10001 (Rr (EdB net last ch) last (10000 - till)) (keyB last till T)

section
variable {n : Int} {net : Net} {f last ch till : Int}
theorem back_fwd (hnet : netB n net = true) (hc : 0 ≤ ch) {L0 : Int} {v x : Int} (h : Rr (EdB net last ch) last (10000 - till) v x) :
    ∀ y, Rr (EdF net f ch) f L0 v y → y + (if v = last then 0 else chg f ch v) ≤ 10000 - x → ∃ z, z ≤ till ∧ Rr (EdF net f ch) f L0 last z := by
  refine Rr_ind (Q := fun v x => ∀ y, Rr (EdF net f ch) f L0 v y → y + (if v = last then 0 else chg f ch v) ≤ 10000 - x → ∃ z, z ≤ till ∧ Rr (EdF net f ch) f L0 last z) ?_ ?_ h
  · intro y hy hle
    rw [if_pos rfl] at hle
    exact ⟨y, by omega, hy⟩
  · rintro u y' thr v x _ hq ⟨a, b, hh, rfl, rfl, rfl, hv, rfl⟩ hyt y hy hle
    rw [if_neg hv] at hle
    refine hq b.2.1 (Rr_step hy ⟨a, b, hh, rfl, rfl, rfl, rfl⟩ (by omega)) ?_
    unfold thrB at hyt
    have : chg f ch b.1 ≤ ch := by unfold chg; split <;> omega
    split at hyt
    · rename_i e; rw [if_pos e]; omega
    · rename_i e; rw [if_neg e]; omega
def InT (net : Net) (f last ch till v y : Int) : Prop :=
  (v = last ∧ y ≤ till) ∨ (v ≠ last ∧ v ≠ f ∧ ∃ κ, Rr (EdB net last ch) last (10000 - till) v κ ∧ y + ch ≤ 10000 - κ) ∨ (v = f ∧ v ≠ last ∧ ∃ L', y ≤ L' ∧ Rr (EdB net last ch) last (10000 - till) f (10000 - L'))
theorem fwd_back (hnet : netB n net = true) (hc : 0 ≤ ch) (hfl : f ≠ last) (hf : 0 ≤ f ∧ f < n) (hl : 0 ≤ last ∧ last < n) (htl : 0 ≤ till) {L0 : Int} (hL0 : L0 ≤ 10000) {v y : Int} (h : Rr (EdF net f ch) f L0 v y) (hi : InT net f last ch till v y) : ∃ L', L0 ≤ L' ∧ Rr (EdB net last ch) last (10000 - till) f (10000 - L') := by
  have hgo : InT net f last ch till v y → ∃ L', L0 ≤ L' ∧ Rr (EdB net last ch) last (10000 - till) f (10000 - L') := by
    refine Rr_ind (Q := fun v y => InT net f last ch till v y → ∃ L', L0 ≤ L' ∧ Rr (EdB net last ch) last (10000 - till) f (10000 - L')) ?_ ?_ h
    · rintro (⟨e, _⟩ | ⟨_, e, _⟩ | ⟨_, _, L', h1, h2⟩)
      · exact absurd e hfl
      · exact absurd rfl e
      · exact ⟨L', h1, h2⟩
    · rintro u y' thr v y hu hq ⟨a, b, hh, rfl, rfl, rfl, rfl⟩ hyt hin
      have ho := hop_ok hnet hh
      have hcg := chg_nn (f := f) (v := a.1) hc
      have hu1 := Rr_range (edF_ok hnet hc) hf.1 hf.2 (by omega : L0 < 10001) hu
      have hy0 : L0 ≤ y' := by rcases hu1.2.2.2 with ⟨_, e⟩ | e <;> omega
      rcases hin with ⟨e, h1⟩ | ⟨e1, e2, κ, h1, h2⟩ | ⟨e, e2, L', h1, h2⟩
      · have hal : a.1 ≠ last := by rw [← e]; exact ho.2.2.2.2.2.2.2.2.2
        have hb : Rr (EdB net last ch) last (10000 - till) a.1 (10000 - a.2.2) := Rr_step (Rr_start) ⟨a, b, hh, e.symm, rfl, rfl, hal, rfl⟩ (by unfold thrB; rw [if_pos e]; omega)
        refine hq ?_
        by_cases ha : a.1 = f
        · rw [ha] at hb
          exact .inr (.inr ⟨ha, hal, a.2.2, by omega, hb⟩)
        · refine .inr (.inl ⟨hal, ha, _, hb, ?_⟩)
          unfold chg at hyt
          rw [if_neg ha] at hyt
          omega
      · have hk := Rr_range (edB_ok hnet hc) hl.1 hl.2 (by omega : 10000 - till < 10001) h1
        have hkt : 10000 - till ≤ κ := by rcases hk.2.2.2 with ⟨_, e⟩ | e <;> omega
        by_cases hal : a.1 = last
        · exact hq (.inl ⟨hal, by omega⟩)
        · have hb : Rr (EdB net last ch) last (10000 - till) a.1 (10000 - a.2.2) := Rr_step h1 ⟨a, b, hh, rfl, rfl, rfl, hal, rfl⟩ (by unfold thrB; rw [if_neg e1]; omega)
          refine hq ?_
          by_cases ha : a.1 = f
          · rw [ha] at hb
            exact .inr (.inr ⟨ha, hal, a.2.2, by omega, hb⟩)
          · refine .inr (.inl ⟨hal, ha, _, hb, ?_⟩)
            unfold chg at hyt
            rw [if_neg ha] at hyt
            omega
      · exact ⟨L', by omega, h2⟩
  exact hgo hi
/-- A letter that leaves at a time with a coach is there in time. -/
def Works (net : Net) (f last ch till L : Int) : Prop := ∃ z, z ≤ till ∧ Rr (EdF net f ch) f L last z
theorem works_back (hnet : netB n net = true) (hc : 0 ≤ ch) (hfl : f ≠ last) (hf : 0 ≤ f ∧ f < n) (hl : 0 ≤ last ∧ last < n) (htl : 0 ≤ till) {L : Int} (hL : L ≤ 10000) (h : Works net f last ch till L) : ∃ L', L ≤ L' ∧ Rr (EdB net last ch) last (10000 - till) f (10000 - L') := by
  obtain ⟨z, hz, hr⟩ := h
  exact fwd_back hnet hc hfl hf hl htl hL hr (.inl ⟨rfl, hz⟩)
theorem back_works (hnet : netB n net = true) (hc : 0 ≤ ch) (hfl : f ≠ last) {x : Int} (h : Rr (EdB net last ch) last (10000 - till) f x) : Works net f last ch till (10000 - x) ∧ ∃ a b, Hop net a b ∧ a.1 = f ∧ a.2.2 = 10000 - x := by
  refine ⟨?_, ?_⟩
  · refine back_fwd hnet hc h (10000 - x) Rr_start ?_
    rw [if_neg hfl]; unfold chg; rw [if_pos rfl]; omega
  · rcases Rr_last h with ⟨e, _⟩ | ⟨u, y, thr, _, ⟨a, b, hh, _, _, e, _, ex⟩, _⟩
    · exact absurd e hfl
    · exact ⟨a, b, hh, e.symm, by omega⟩
end

theorem atL_at {n : Int} {l : List T3} (hs : stopsB n l = true) {i : Nat} {a : T3} (hi : l[i]? = some a) : atL a.1 l = i := by
  have key : ∀ (r : List T3) (k : Nat), (∀ j b, r[j]? = some b → ∃ m, l[m]? = some b ∧ m = k + j) → ∀ i, r[i]? = some a → atFrom a.1 k r = (k + i : Nat) := by
    intro r
    induction r with
    | nil => intro k _ i hi; simp at hi
    | cons s r ih =>
      intro k hk i hi
      rw [atFrom]
      by_cases e : s.1 = a.1
      · rw [if_pos e]
        obtain ⟨m1, h1, e1⟩ := hk 0 s rfl
        obtain ⟨m2, h2, e2⟩ := hk i a hi
        have := stopsB_inj hs h1 h2 e
        congr 1; omega
      · rw [if_neg e]
        cases i with
        | zero => simp only [List.getElem?_cons_zero, Option.some.injEq] at hi; subst hi; exact absurd rfl e
        | succ i =>
          rw [ih (k + 1) (fun j b hb => by obtain ⟨m, h1, h2⟩ := hk (j + 1) b (by simpa using hb); exact ⟨m, h1, by omega⟩) i (by simpa using hi)]
          congr 1; omega
  have := key l 0 (fun j b hb => ⟨j, hb, by omega⟩) i hi
  simpa [atL] using this
/-- What the reference tries, coach by coach. -/
def leaveStep (n : Int) (net : Net) (f to t ch : Int) (best : Int) (l : List T3) : Int :=
  if atL f l < 0 ∨ (l.getD (atL f l).toNat (0, 0, 0)).2.2 ≤ best then best else
    if 0 ≤ (if postOk n net f (l.getD (atL f l).toNat (0, 0, 0)).2.2 ch && inB to 0 (n - 1) then tg (tableL n net f (l.getD (atL f l).toNat (0, 0, 0)).2.2 ch) to else -1) ∧ (if postOk n net f (l.getD (atL f l).toNat (0, 0, 0)).2.2 ch && inB to 0 (n - 1) then tg (tableL n net f (l.getD (atL f l).toNat (0, 0, 0)).2.2 ch) to else -1) ≤ t then (l.getD (atL f l).toNat (0, 0, 0)).2.2 else best
def leaveFold (n : Int) (net : Net) (f to t ch : Int) (ls : Net) : Int := ls.foldl (leaveStep n net f to t ch) (-1)
section
variable {n : Int} {net : Net} {f to ch t : Int}
theorem table_works (hok : postOk n net f t ch = true) {L till : Int} (hL : 0 ≤ L ∧ L ≤ 10000) (hto : 0 ≤ to ∧ to < n) (htl : till ≤ 10000) :
    (0 ≤ (if postOk n net f L ch && inB to 0 (n - 1) then tg (tableL n net f L ch) to else -1) ∧ (if postOk n net f L ch && inB to 0 (n - 1) then tg (tableL n net f L ch) to else -1) ≤ till) ↔ Works net f to ch till L := by
  obtain ⟨hnet, hf, _, hc, _⟩ := postOk_and hok
  have hok2 : postOk n net f L ch = true := by
    simp only [postOk, Bool.and_eq_true] at hok ⊢
    exact ⟨⟨hok.1.1, inB_true hL⟩, hok.2⟩
  rw [hok2, inB_true (show 0 ≤ to ∧ to ≤ n - 1 by omega), if_pos (by rfl)]
  have hT := tableL_is hok2
  have hm := hT.2 to hto.1 hto.2
  constructor
  · rintro ⟨h1, h2⟩
    have e := keyF_nn h1
    exact ⟨_, h2, by have := hm.2.1 (by omega); rwa [e] at this⟩
  · rintro ⟨z, hz, hr⟩
    have h1 := hm.2.2 z hr
    have h2 := keyF_le (T := tableL n net f L ch) (v := to) (x := z) h1 (by omega)
    omega
theorem leave_fold (hok : postOk n net f t ch = true) (hto : 0 ≤ to ∧ to < n) (ls : Net) (hsub : ∀ l ∈ ls, l ∈ net) (b0 : Int) (h0 : -1 ≤ b0) :
    let r := ls.foldl (leaveStep n net f to t ch) b0
    b0 ≤ r ∧ (r = b0 ∨ (0 ≤ r ∧ Works net f to ch t r)) ∧ ∀ l ∈ ls, ∀ (i : Nat) (a : T3), l[i]? = some a → a.1 = f → Works net f to ch t a.2.2 → a.2.2 ≤ r := by
  have ht := (postOk_and hok).2.2.1
  induction ls generalizing b0 with
  | nil => exact ⟨Int.le_refl _, .inl rfl, fun l hl => by simp at hl⟩
  | cons l r ih =>
    have hs := netB_mem (postOk_and hok).1 (hsub l (by simp))
    have hstep : b0 ≤ leaveStep n net f to t ch b0 l ∧ (leaveStep n net f to t ch b0 l = b0 ∨ (0 ≤ leaveStep n net f to t ch b0 l ∧ Works net f to ch t (leaveStep n net f to t ch b0 l))) ∧ ∀ (i : Nat) (a : T3), l[i]? = some a → a.1 = f → Works net f to ch t a.2.2 → a.2.2 ≤ leaveStep n net f to t ch b0 l := by
      unfold leaveStep
      rcases atFrom_ge f 0 l with hn | ⟨j, hj, hje, hjt⟩
      · have hn' : atL f l = -1 := hn
        rw [if_pos (.inl (by omega))]
        refine ⟨Int.le_refl _, .inl rfl, fun i a hi ha _ => ?_⟩
        have := atL_at hs hi
        rw [ha] at this; omega
      · have hje' : atL f l = (j : Int) := by rw [atL, hje]; simp
        have hgd : l.getD (atL f l).toNat (0, 0, 0) = l[j] := by rw [hje', List.getD_eq_getElem?_getD, Int.toNat_natCast, List.getElem?_eq_getElem hj]; rfl
        have hone := stopsB_one hs (List.getElem?_eq_getElem hj)
        have huniq : ∀ (i : Nat) (a : T3), l[i]? = some a → a.1 = f → a = l[j] := fun i a hi ha => by
          have e := stopsB_inj hs hi (List.getElem?_eq_getElem hj) (by rw [ha, hjt])
          subst e
          rw [List.getElem?_eq_getElem hj] at hi
          injection hi with hi; exact hi.symm
        rw [hgd]
        by_cases hb : l[j].2.2 ≤ b0
        · rw [if_pos (.inr hb)]
          refine ⟨Int.le_refl _, .inl rfl, fun i a hi ha _ => by rw [huniq i a hi ha]; exact hb⟩
        · rw [if_neg (by rw [hje']; omega)]
          have hw := table_works (till := t) hok (L := l[j].2.2) (by omega) hto (by omega)
          by_cases hwk : Works net f to ch t l[j].2.2
          · rw [if_pos (hw.2 hwk)]
            exact ⟨by omega, .inr ⟨by omega, hwk⟩, fun i a hi ha _ => by rw [huniq i a hi ha]; exact Int.le_refl _⟩
          · rw [if_neg (fun h => hwk (hw.1 h))]
            refine ⟨Int.le_refl _, .inl rfl, fun i a hi ha h => absurd (by rw [huniq i a hi ha] at h; exact h) hwk⟩
    obtain ⟨s1, s2, s3⟩ := hstep
    have := ih (fun l hl => hsub l (by simp [hl])) (leaveStep n net f to t ch b0 l) (by omega)
    obtain ⟨i1, i2, i3⟩ := this
    refine ⟨by simp only [List.foldl_cons]; omega, ?_, ?_⟩
    · simp only [List.foldl_cons]
      rcases i2 with i2 | i2
      · rw [i2]; exact s2
      · exact .inr i2
    · intro l' hl' i a hi ha hw
      simp only [List.foldl_cons]
      rcases List.mem_cons.1 hl' with rfl | hl'
      · have := s3 i a hi ha hw; omega
      · exact i3 l' hl' i a hi ha hw
theorem leave_eq (hok : postOk n net f t ch = true) (hto : 0 ≤ to ∧ to < n) (hne : f ≠ to) {T : List Int} (hT : IsLeave n net to t ch T) : tg T f = leaveFold n net f to t ch net := by
  obtain ⟨hnet, hf, ht, hc, _⟩ := postOk_and hok
  obtain ⟨h1, h2, h3⟩ := leave_fold hok hto net (fun _ h => h) (-1) (Int.le_refl _)
  have hk : keyB to t T f = 10000 - tg T f := by unfold keyB; rw [if_neg hne]
  obtain ⟨m1, m2, m3⟩ := hT.2 f hf.1 hf.2
  rw [hk] at m1 m2 m3
  have htg := hT.1.tg hf.1 hf.2
  show tg T f = net.foldl (leaveStep n net f to t ch) (-1)
  have e1 : tg T f ≤ net.foldl (leaveStep n net f to t ch) (-1) := by
    by_cases hT0 : tg T f < 0
    · omega
    · obtain ⟨hw, a, b, ⟨l, hl, i, j, _, hi, _⟩, ha, hae⟩ := back_works hnet hc.1 hne (m2 (by omega))
      have := h3 l hl i a hi ha (by rw [hae]; exact hw)
      omega
  have e2 : net.foldl (leaveStep n net f to t ch) (-1) ≤ tg T f := by
    rcases h2 with h2 | ⟨h20, h2⟩
    · rw [h2]; omega
    · by_cases hbig : net.foldl (leaveStep n net f to t ch) (-1) ≤ 10000
      · obtain ⟨L', hL1, hL2⟩ := works_back hnet hc.1 hne hf hto ht.1 hbig h2
        have := m3 _ hL2
        omega
      · obtain ⟨z, hz, hr⟩ := h2
        have := Rr_range (B := net.foldl (leaveStep n net f to t ch) (-1) + 1) (n := n) (by
          rintro u thr v x ⟨a, b, hh, rfl, rfl, rfl, rfl⟩
          have := hop_ok hnet hh
          have := chg_nn (f := f) (v := a.1) hc.1
          omega) hf.1 hf.2 (by omega) hr
        rcases this.2.2.2 with ⟨e, _⟩ | e
        · exact absurd e.symm hne
        · omega
  omega
end
def leaveV (n : Int) (net : Net) (f to t ch : Int) : Int := if postOk n net f t ch && inB to 0 (n - 1) then (if f = to then t else leaveFold n net f to t ch net) else -1

end Go.Proofs.Ytdiichfdffhdaaa
