/-
  Plain laws of lateness: how the end moves when a delay does.
-/
import Derived.Test.YteceohdchknbbaaLateMath
namespace Go.Proofs.Yteceohdchknbbaa
open Go.RowKit

/-- How late a coach arrives at its last stop. -/
def endR (late : Int) : List Int → List Int → Int
  | s :: ss, d :: ds => if ds = [] then late + d else endR (lstep late d s) ss ds
  | _, _ => late
theorem lastD_cons (x : Int) (l : List Int) (h : l ≠ []) : lastD (x :: l) = lastD l := by
  cases l with
  | nil => exact absurd rfl h
  | cons y r => simp [lastD]
theorem runA_nil (late : Int) (S : List Int) : runA late S [] = [] := by cases S <;> rfl
theorem endR_last (late : Int) (S ds : List Int) (h : ds.length ≤ S.length) : lastD (late :: runA late S ds) = endR late S ds := by
  induction ds generalizing late S with
  | nil => cases S <;> simp [runA, endR, lastD]
  | cons d r ih =>
    cases S with
    | nil => simp at h
    | cons s ss =>
      rw [lastD_cons _ _ (by simp [runA]), runA, endR]
      split
      · rename_i hr; subst hr; rw [runA_nil]; simp [lastD]
      · rename_i hr
        have := ih (lstep late d s) ss (by simpa using h)
        rw [← this]
        cases r with
        | nil => exact absurd rfl hr
        | cons d2 r2 => cases ss with
          | nil => simp at h
          | cons s2 ss2 => rw [lastD_cons _ _ (by simp [runA]), lastD_cons _ _ (by simp [runA])]
theorem slacks_drop_len (least : Int) (l : List T3) : ((slacks least l).drop 1).length = l.length - 1 := by rw [List.length_drop, slacks_length]
theorem endV_R {n : Int} {l : List T3} {least start : Int} {ds : List Int} (h : lateOk n l least start ds = true) : endV n l least start ds = endR start ((slacks least l).drop 1) ds := by
  rw [endV, if_pos h, arrF, endR_last]
  have := (lateOk_and h).2.2.1
  rw [slacks_drop_len]; omega
theorem lstep_lip {late late' d d' s : Int} (h1 : late ≤ late') (h2 : d ≤ d') : lstep late d s ≤ lstep late' d' s ∧ lstep late' d' s ≤ lstep late d s + (late' - late) + (d' - d) := by
  unfold lstep; omega
theorem endR_lip (late late' : Int) (S ds : List Int) (h : late ≤ late') : endR late S ds ≤ endR late' S ds ∧ endR late' S ds ≤ endR late S ds + (late' - late) := by
  induction ds generalizing late late' S with
  | nil => cases S <;> simp only [endR] <;> omega
  | cons d r ih =>
    cases S with
    | nil => simp only [endR]; omega
    | cons s ss =>
      simp only [endR]
      split
      · omega
      · have h1 := lstep_lip (s := s) h (Int.le_refl d)
        have h2 := ih (lstep late d s) (lstep late' d s) ss h1.1
        omega
/-- Another delay at one way. -/
theorem endR_set (late : Int) (S ds : List Int) (k : Nat) (x : Int) (hk : k < ds.length) (hx : ds[k] ≤ x) (hl : ds.length ≤ S.length) : endR late S ds ≤ endR late S (ds.set k x) ∧ endR late S (ds.set k x) ≤ endR late S ds + (x - ds[k]) := by
  induction ds generalizing late S k with
  | nil => simp at hk
  | cons d r ih =>
    cases S with
    | nil => simp at hl
    | cons s ss =>
      cases k with
      | zero =>
        simp only [List.set_cons_zero, List.getElem_cons_zero, endR] at hx ⊢
        split
        · omega
        · have h1 := lstep_lip (s := s) (Int.le_refl late) hx
          have h2 := endR_lip _ _ ss r h1.1
          omega
      | succ k =>
        have hne : r ≠ [] := by rintro rfl; simp at hk
        have hne2 : r.set k x ≠ [] := by intro h; apply hne; have := congrArg List.length h; simpa using this
        simp only [List.set_cons_succ, List.getElem_cons_succ, endR, if_neg hne, if_neg hne2] at hx ⊢
        exact ih (lstep late d s) ss k (by simpa using hk) hx (by simpa using hl)
theorem endR_set_last (late : Int) (S ds : List Int) (x : Int) (hk : 0 < ds.length) (hl : ds.length ≤ S.length) : endR late S (ds.set (ds.length - 1) x) = endR late S ds + (x - ds[ds.length - 1]) := by
  induction ds generalizing late S with
  | nil => simp at hk
  | cons d r ih =>
    cases S with
    | nil => simp at hl
    | cons s ss =>
      cases r with
      | nil => simp [endR]; omega
      | cons d2 r2 =>
        have := ih (lstep late d s) ss (by simp) (by simpa using hl)
        simp only [List.length_cons, Nat.add_sub_cancel] at this ⊢
        have e : r2.length + 1 = (r2.length) + 1 := rfl
        rw [List.set_cons_succ]
        simp only [endR]
        have hne2 : (d2 :: r2).set r2.length x ≠ [] := by intro h; have := congrArg List.length h; simp at this
        rw [if_neg hne2, if_neg (by simp), List.getElem_cons_succ]
        exact this
theorem endR_le (late : Int) (S ds : List Int) (h0 : 0 ≤ late) (hS : ∀ s ∈ S, 0 ≤ s) (hd : ∀ d ∈ ds, 0 ≤ d) : endR late S ds ≤ late + sumI ds := by
  induction ds generalizing late S with
  | nil => cases S <;> simp [endR, sumI_nil]
  | cons d r ih =>
    have hd0 := hd d (by simp)
    cases S with
    | nil =>
      simp only [endR]
      have : 0 ≤ sumI (d :: r) := by
        clear ih hS
        generalize d :: r = L at *
        induction L with
        | nil => simp [sumI_nil]
        | cons y q ihq => rw [sumI_cons]; have := hd y (by simp); have := ihq (fun z hz => hd z (by simp [hz])); omega
      omega
    | cons s ss =>
      have hs0 := hS s (by simp)
      rw [sumI_cons]
      simp only [endR]
      split
      · rename_i hr; subst hr; rw [sumI_nil]; omega
      · have hst : 0 ≤ lstep late d s ∧ lstep late d s ≤ late + d := by unfold lstep; omega
        have := ih (lstep late d s) ss hst.1 (fun z hz => hS z (by simp [hz])) (fun z hz => hd z (by simp [hz]))
        omega
theorem endR_ge (late : Int) (S ds : List Int) (hl : ds.length ≤ S.length) (hp : 0 < ds.length) : late + sumI ds - sumI (S.take (ds.length - 1)) ≤ endR late S ds := by
  induction ds generalizing late S with
  | nil => simp at hp
  | cons d r ih =>
    cases S with
    | nil => simp at hl
    | cons s ss =>
      rw [sumI_cons]
      simp only [endR]
      split
      · rename_i hr; subst hr; simp [sumI_nil]
      · rename_i hr
        have hrp : 0 < r.length := by cases r with | nil => exact absurd rfl hr | cons _ _ => simp
        have hst : late + d - s ≤ lstep late d s := by unfold lstep; omega
        have := ih (lstep late d s) ss (by simpa using hl) hrp
        have e : (d :: r).length - 1 = (r.length - 1) + 1 := by simp; omega
        rw [e, List.take_succ_cons, sumI_cons]
        omega
theorem endR_ge_last (late : Int) (S ds : List Int) (hl : ds.length ≤ S.length) (hp : 0 < ds.length) (h0 : 0 ≤ late) : ds[ds.length - 1] ≤ endR late S ds := by
  induction ds generalizing late S with
  | nil => simp at hp
  | cons d r ih =>
    cases S with
    | nil => simp at hl
    | cons s ss =>
      cases r with
      | nil => simp [endR]; omega
      | cons d2 r2 =>
        have hst : 0 ≤ lstep late d s := by unfold lstep; omega
        have := ih (lstep late d s) ss (by simpa using hl) (by simp) hst
        simp only [endR, List.length_cons, Nat.add_sub_cancel] at this ⊢
        rw [if_neg (by simp), List.getElem_cons_succ]
        exact this
theorem endR_nonneg (late : Int) (S ds : List Int) (h0 : 0 ≤ late) (hd : ∀ d ∈ ds, 0 ≤ d) : 0 ≤ endR late S ds := by
  induction ds generalizing late S with
  | nil => cases S <;> simpa [endR] using h0
  | cons d r ih =>
    cases S with
    | nil => simpa [endR] using h0
    | cons s ss =>
      have hd0 := hd d (by simp)
      simp only [endR]
      split
      · omega
      · exact ih _ _ (by unfold lstep; omega) (fun z hz => hd z (by simp [hz]))
/-- Without delays. -/
theorem endR_zero (late : Int) (S : List Int) (m : Nat) (hl : m + 1 ≤ S.length) (h0 : 0 ≤ late) (hS : ∀ s ∈ S, 0 ≤ s) : endR late S (List.replicate (m + 1) 0) = max 0 (late - sumI (S.take m)) := by
  induction m generalizing late S with
  | zero =>
    cases S with
    | nil => simp at hl
    | cons s ss => simp [endR, sumI_nil]; omega
  | succ m ih =>
    cases S with
    | nil => simp at hl
    | cons s ss =>
      have hs := hS s (by simp)
      rw [List.replicate_succ]
      simp only [endR]
      rw [if_neg (by simp [List.replicate_succ]), List.take_succ_cons, sumI_cons, ih (lstep late 0 s) ss (by simpa using hl) (by unfold lstep; omega) (fun z hz => hS z (by simp [hz]))]
      have hp : 0 ≤ sumI (ss.take m) := by
        have : ∀ L : List Int, (∀ z ∈ L, 0 ≤ z) → 0 ≤ sumI L := by
          intro L
          induction L with
          | nil => intro _; simp [sumI_nil]
          | cons y q ihq => intro h; rw [sumI_cons]; have := h y (by simp); have := ihq (fun z hz => h z (by simp [hz])); omega
        exact this _ (fun z hz => hS z (by simp [List.mem_of_mem_take hz]))
      unfold lstep
      omega
theorem sumI_nonneg (L : List Int) (h : ∀ z ∈ L, 0 ≤ z) : 0 ≤ sumI L := by
  induction L with
  | nil => simp [sumI_nil]
  | cons y q ihq => rw [sumI_cons]; have := h y (by simp); have := ihq (fun z hz => h z (by simp [hz])); omega
theorem lateOk_mk {n : Int} {l : List T3} {least start : Int} {ds : List Int} (h1 : slackOk n l least = true) (h2 : 0 ≤ start ∧ start ≤ 300) (h3 : ds.length + 1 = l.length) (h4 : ∀ d ∈ ds, 0 ≤ d ∧ d ≤ 300) : lateOk n l least start ds = true := by
  simp only [lateOk, Bool.and_eq_true, decide_eq_true_eq]
  refine ⟨⟨⟨h1, inB_true h2⟩, h3⟩, ?_⟩
  rw [List.all_eq_true]; exact fun d hd => inB_true (h4 d hd)
theorem lateOk_ds {n : Int} {l : List T3} {least start : Int} {ds : List Int} (h : lateOk n l least start ds = true) : ∀ d ∈ ds, 0 ≤ d ∧ d ≤ 300 := by
  have := (lateOk_and h).2.2.2
  rw [List.all_eq_true] at this
  exact fun d hd => of_inB (this d hd)
theorem endV_ok {n : Int} {l : List T3} {least start : Int} {ds : List Int} (h : 0 ≤ endV n l least start ds) : lateOk n l least start ds = true := by
  unfold endV at h; split at h
  · assumption
  · omega
theorem endV_bad {n : Int} {l : List T3} {least start : Int} {ds : List Int} (h : ¬ lateOk n l least start ds = true) : endV n l least start ds = -1 := by
  unfold endV; rw [if_neg h]
theorem late_len {n : Int} {l : List T3} {least start : Int} {ds : List Int} (h : lateOk n l least start ds = true) : 1 ≤ ds.length ∧ ds.length ≤ 7 ∧ ds.length + 1 = l.length ∧ ds.length ≤ ((slacks least l).drop 1).length := by
  obtain ⟨hs, _, hlen, _⟩ := lateOk_and h
  obtain ⟨_, _, h2, h8⟩ := stopsB_n (slackOk_and hs).1
  rw [slacks_drop_len]
  omega
theorem slacks_sum (least : Int) (l : List T3) (k : Nat) (hk : 0 < k) : sumI ((slacks least l).take k) = sumI (((slacks least l).drop 1).take (k - 1)) := by
  cases l with
  | nil => simp [slacks]
  | cons s r =>
    obtain ⟨k, rfl⟩ : ∃ j, k = j + 1 := ⟨k - 1, by omega⟩
    simp [slacks, sumI_cons]
theorem mem_slacks1 {n : Int} {l : List T3} {least : Int} (h : slackOk n l least = true) : ∀ s ∈ (slacks least l).drop 1, 0 ≤ s ∧ s ≤ 10000 := fun s hs => mem_slacks h s (List.mem_of_mem_drop hs)
theorem lastD_get {l : List Int} (h : 0 < l.length) : lastD l = l[l.length - 1] := by
  unfold lastD; rw [List.getD_eq_getElem?_getD, List.getElem?_eq_getElem (by omega)]; rfl
theorem sumI_init (l : List Int) (h : 0 < l.length) : sumI l = sumI (l.take (l.length - 1)) + l[l.length - 1] := by
  have := List.take_succ_eq_append_getElem (l := l) (i := l.length - 1) (by omega)
  rw [← sumI_snoc, ← this, List.take_of_length_le (by omega)]

/-- P65: what slacks take away. -/
theorem late_end_law {n : Int} {l : List T3} {least start : Int} {ds S : List Int} {v : Int} (h : lateOk n l least start ds = true) (hSe : S = slacks least l) (hv : v = endV n l least start ds) (hS : 0 < S.length) (hd : 0 < ds.length) :
    v ≤ start + sumI ds ∧ start + sumI ds - (sumI S - S[S.length - 1]) ≤ v ∧ ds[ds.length - 1] ≤ v ∧ 0 ≤ sumI S - S[S.length - 1] ∧ 0 ≤ v := by
  obtain ⟨h1, h2, h3, h4⟩ := late_len h
  obtain ⟨hs, hst, _, _⟩ := lateOk_and h
  have hds := lateOk_ds h
  have e : v = endR start (S.drop 1) ds := by rw [hv, hSe]; exact endV_R h
  have hSm := mem_slacks1 hs
  have b4 : 0 ≤ sumI (S.take (S.length - 1)) := by rw [hSe]; exact sumI_nonneg _ (fun z hz => (mem_slacks hs z (List.mem_of_mem_take hz)).1)
  have hSl : S.length = ds.length + 1 := by rw [hSe, slacks_length]; omega
  have b2 : sumI (S.take (S.length - 1)) = sumI ((S.drop 1).take (S.length - 1 - 1)) := by rw [hSe]; exact slacks_sum least l _ (by rw [← hSe]; omega)
  rw [← hSe] at h4 hSm
  have a1 := endR_le start (S.drop 1) ds hst.1 (fun s hs => (hSm s hs).1) (fun d hd => (hds d hd).1)
  have a2 := endR_ge start (S.drop 1) ds h4 hd
  have a3 := endR_ge_last start (S.drop 1) ds h4 hd hst.1
  have a4 := endR_nonneg start (S.drop 1) ds hst.1 (fun d hd => (hds d hd).1)
  have b1 := sumI_init S hS
  have b3 : S.length - 1 - 1 = ds.length - 1 := by omega
  rw [b3] at b2
  omega

end Go.Proofs.Yteceohdchknbbaa
