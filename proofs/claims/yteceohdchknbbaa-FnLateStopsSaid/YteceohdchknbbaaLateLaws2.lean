/-
  Plain laws of lateness: stop by stop; more delay; no delay; sums; blame.
-/
import Derived.Test.YteceohdchknbbaaLateLaws
namespace Go.Proofs.Yteceohdchknbbaa
open Go.RowKit

theorem late_free_law {n : Int} {l : List T3} {least v : Int} (hv : v = freeV n l least) (h0 : 0 ≤ v) :
    slackOk n l least = true ∧ v ≤ 300 ∧ endV n l least v (List.replicate (l.length - 1) 0) = 0 ∧ ((v = 300 ∧ endV n l least (v + 1) (List.replicate (l.length - 1) 0) = -1) ∨ (v < 300 ∧ endV n l least (v + 1) (List.replicate (l.length - 1) 0) = 1)) := by
  have hs : slackOk n l least = true := by
    unfold freeV at hv; split at hv
    · assumption
    · omega
  have hv' : v = min (sumI ((slacks least l).take (l.length - 1))) 300 := by rw [hv, freeV, if_pos hs]
  obtain ⟨_, _, h2, h8⟩ := stopsB_n (slackOk_and hs).1
  have hsum : sumI ((slacks least l).take (l.length - 1)) = sumI (((slacks least l).drop 1).take (l.length - 1 - 1)) := slacks_sum least l _ (by omega)
  have hrep : List.replicate (l.length - 1) (0 : Int) = List.replicate ((l.length - 1 - 1) + 1) 0 := by congr 1; omega
  have hz : ∀ s, 0 ≤ s → s ≤ 300 → endV n l least s (List.replicate (l.length - 1) 0) = max 0 (s - sumI (((slacks least l).drop 1).take (l.length - 1 - 1))) := by
    intro s hs0 hs1
    rw [endV_R (lateOk_mk hs ⟨hs0, hs1⟩ (by simp; omega) (by intro d hd; rw [List.mem_replicate] at hd; omega)), hrep]
    exact endR_zero s _ _ (by rw [slacks_drop_len]; omega) hs0 (fun x hx => (mem_slacks1 hs x hx).1)
  refine ⟨hs, by omega, ?_, ?_⟩
  · rw [hz v h0 (by omega)]; omega
  · by_cases h3 : v = 300
    · refine .inl ⟨h3, endV_bad ?_⟩
      intro h; have := (lateOk_and h).2.1; omega
    · refine .inr ⟨by omega, ?_⟩
      rw [hz (v + 1) (by omega) (by omega)]; omega

theorem run_at (late : Int) (S ds : List Int) (i : Nat) (hi : i < ds.length) (hS : ds.length ≤ S.length) :
    (late :: runA late S ds).getD (i + 1) 0 = (late :: runL late S ds).getD i 0 + ds.getD i 0 ∧ (late :: runL late S ds).getD (i + 1) 0 = max 0 ((late :: runA late S ds).getD (i + 1) 0 - S.getD i 0) := by
  induction ds generalizing late S i with
  | nil => simp at hi
  | cons d r ih =>
    cases S with
    | nil => simp at hS
    | cons s ss =>
      cases i with
      | zero => simp [runA, runL, lstep]
      | succ i =>
        have := ih (lstep late d s) ss i (by simpa using hi) (by simpa using hS)
        simpa [runA, runL] using this
theorem getD_get {l : List Int} {i : Nat} (h : i < l.length) : l.getD i 0 = l[i] := by simp [List.getD, h]
/-- P62: from stop to stop. -/
theorem late_arrive_law {n : Int} {l : List T3} {least start : Int} {ds a b S : List Int} (h : lateOk n l least start ds = true) (ha : a = arrF l least start ds) (hb : b = leaF l least start ds) (hSe : S = slacks least l) :
    a.length = l.length ∧ b.length = l.length ∧ S.length = l.length ∧ ds.length + 1 = l.length ∧ a.getD 0 0 = start ∧ b.getD 0 0 = start ∧ ∀ i, i < ds.length → a.getD (i + 1) 0 = b.getD i 0 + ds.getD i 0 ∧ b.getD (i + 1) 0 = max 0 (a.getD (i + 1) 0 - S.getD (i + 1) 0) := by
  obtain ⟨h1, h2, h3, h4⟩ := late_len h
  refine ⟨by rw [ha, arrF_len h], by rw [hb, leaF_len h], by rw [hSe, slacks_length], h3, by rw [ha]; simp [arrF], by rw [hb]; simp [leaF], ?_⟩
  intro i hi
  have e : (slacks least l).getD (i + 1) 0 = ((slacks least l).drop 1).getD i 0 := by
    cases l with
    | nil => simp at h3
    | cons s r => simp [slacks]
  rw [ha, hb, hSe, e]
  exact run_at start _ ds i hi h4
/-- P63: nobody leaves early. -/
theorem late_leave_law {n : Int} {l : List T3} {least start : Int} {ds a b : List Int} (h : lateOk n l least start ds = true) (ha : a = arrF l least start ds) (hb : b = leaF l least start ds) (i : Nat) (hi : i < l.length) :
    0 ≤ b.getD i 0 ∧ b.getD i 0 ≤ a.getD i 0 ∧ a.getD i 0 ≤ 2400 := by
  obtain ⟨g1, g2, g3, g4, g5, g6, g7⟩ := late_arrive_law h ha hb rfl
  have hst := (lateOk_and h).2.1
  have hab := (arrF_bd h).1
  rw [← ha] at hab
  have hal : a.getD i 0 ∈ a := by rw [getD_get (by omega)]; exact List.getElem_mem _
  have hbl : b.getD i 0 ∈ b := by rw [getD_get (by omega)]; exact List.getElem_mem _
  have hbb := leaF_bd h
  rw [← hb] at hbb
  have k1 := hab _ hal
  have k2 := hbb _ hbl
  cases i with
  | zero => omega
  | succ i =>
    have := g7 i (by omega)
    have hs : 0 ≤ (slacks least l).getD (i + 1) 0 := by
      rw [getD_get (by rw [slacks_length]; omega)]; exact (mem_slacks (lateOk_and h).1 _ (List.getElem_mem _)).1
    omega
theorem runL_mono (late late' : Int) (S S' ds : List Int) (h : late ≤ late') (hl : S.length = S'.length) (hS : ∀ i, S'.getD i 0 ≤ S.getD i 0) (i : Nat) : (runL late S ds).getD i 0 ≤ (runL late' S' ds).getD i 0 := by
  induction ds generalizing late late' S S' i with
  | nil => cases S <;> cases S' <;> simp [runL]
  | cons d r ih =>
    cases S with
    | nil => cases S' with
      | nil => simp [runL]
      | cons _ _ => simp at hl
    | cons s ss => cases S' with
      | nil => simp at hl
      | cons s' ss' =>
        have h0 := hS 0
        simp only [List.getD_cons_zero] at h0
        have hst : lstep late d s ≤ lstep late' d s' := by unfold lstep; omega
        cases i with
        | zero => simpa [runL] using hst
        | succ i =>
          simp only [runL, List.getD_cons_succ]
          exact ih _ _ ss ss' hst (by simpa using hl) (fun j => by simpa using hS (j + 1)) i
theorem late_leave_mono {n : Int} {l : List T3} {least start : Int} {ds b b' : List Int} (hb : b = leaF l least start ds) (hb' : b' = leaF l (least + 1) start ds) (i : Nat) : b.getD i 0 ≤ b'.getD i 0 := by
  rw [hb, hb']
  unfold leaF
  cases i with
  | zero => simp
  | succ i =>
    simp only [List.getD_cons_succ]
    refine runL_mono start start _ _ ds (Int.le_refl _) (by rw [slacks_drop_len, slacks_drop_len]) ?_ i
    intro j
    cases l with
    | nil => simp [slacks]
    | cons s r =>
      simp only [slacks, List.drop_succ_cons, List.drop_zero]
      simp only [List.getD_eq_getElem?_getD, List.getElem?_map]
      cases r[j]? with
      | none => simp
      | some x => simp [slackOf]; omega
theorem lateOk_next {n : Int} {l : List T3} {least start : Int} {ds : List Int} (h : lateOk n l least start ds = true) : lateOk n l (least + 1) start ds = true ∨ least = 300 := by
  obtain ⟨h1, h2, h3, _⟩ := lateOk_and h
  have hd := lateOk_ds h
  obtain ⟨hv, k1, k2⟩ := slackOk_and h1
  by_cases h300 : least = 300
  · exact .inr h300
  · refine .inl (lateOk_mk ?_ h2 h3 hd)
    simp only [slackOk, hv, Bool.true_and]; exact inB_true (by omega)

theorem mem_set {L : List Int} {k : Nat} {x : Int} {P : Int → Prop} (h : ∀ d ∈ L, P d) (hx : P x) : ∀ d ∈ L.set k x, P d := by
  intro d hd
  rcases List.mem_or_eq_of_mem_set hd with h1 | h1
  · exact h d h1
  · rw [h1]; exact hx
/-- P64: more delay. -/
theorem late_more_law {n : Int} {l : List T3} {least start v : Int} {ds : List Int} (h : lateOk n l least start ds = true) (hv : v = endV n l least start ds) (k : Nat) (hk : k < ds.length) :
    (300 < ds[k] + 1 ∧ endV n l least start (ds.set k (ds[k] + 1)) = -1) ∨ endV n l least start (ds.set k (ds[k] + 1)) = v ∨ endV n l least start (ds.set k (ds[k] + 1)) = v + 1 := by
  obtain ⟨h1, h2, h3, h4⟩ := late_len h
  obtain ⟨hs, hst, _, _⟩ := lateOk_and h
  have hd := lateOk_ds h
  have hdk := hd _ (List.getElem_mem hk)
  by_cases hb : 300 < ds[k] + 1
  · refine .inl ⟨hb, endV_bad fun hh => ?_⟩
    have := lateOk_ds hh (ds[k] + 1) (List.mem_iff_getElem.2 ⟨k, by simpa using hk, by simp⟩)
    omega
  · refine .inr ?_
    have hok : lateOk n l least start (ds.set k (ds[k] + 1)) = true := lateOk_mk hs hst (by simpa using h3) (mem_set hd (by omega))
    rw [endV_R hok, hv, endV_R h]
    have := endR_set start ((slacks least l).drop 1) ds k (ds[k] + 1) hk (by omega) h4
    omega
theorem late_more_last {n : Int} {l : List T3} {least start v : Int} {ds : List Int} (h : lateOk n l least start ds = true) (hv : v = endV n l least start ds) (hk : ds.length - 1 < ds.length) :
    (300 < ds[ds.length - 1] + 1 ∧ endV n l least start (ds.set (ds.length - 1) (ds[ds.length - 1] + 1)) = -1) ∨ endV n l least start (ds.set (ds.length - 1) (ds[ds.length - 1] + 1)) = v + 1 := by
  obtain ⟨h1, h2, h3, h4⟩ := late_len h
  obtain ⟨hs, hst, _, _⟩ := lateOk_and h
  have hd := lateOk_ds h
  have hdk := hd _ (List.getElem_mem hk)
  by_cases hb : 300 < ds[ds.length - 1] + 1
  · refine .inl ⟨hb, endV_bad fun hh => ?_⟩
    have := lateOk_ds hh (ds[ds.length - 1] + 1) (List.mem_iff_getElem.2 ⟨ds.length - 1, by simpa using hk, by simp⟩)
    omega
  · refine .inr ?_
    have hok : lateOk n l least start (ds.set (ds.length - 1) (ds[ds.length - 1] + 1)) = true := lateOk_mk hs hst (by simpa using h3) (mem_set hd (by omega))
    rw [endV_R hok, hv, endV_R h, endR_set_last start _ ds _ (by omega) h4]
    omega

theorem sumA_lip (late late' : Int) (S ds : List Int) (h1 : late ≤ late') (h2 : late' ≤ late + 1) : sumI (runA late S ds) ≤ sumI (runA late' S ds) ∧ sumI (runA late' S ds) ≤ sumI (runA late S ds) + ds.length := by
  induction ds generalizing late late' S with
  | nil => simp [runA_nil]
  | cons d r ih =>
    cases S with
    | nil => simp [runA, sumI_nil]; omega
    | cons s ss =>
      have hst := lstep_lip (s := s) h1 (Int.le_refl d)
      have := ih (lstep late d s) (lstep late' d s) ss (by omega) (by omega)
      simp only [runA, sumI_cons, List.length_cons]
      omega
theorem sumA_set (late : Int) (S ds : List Int) (k : Nat) (hk : k < ds.length) (hl : ds.length ≤ S.length) : sumI (runA late S ds) + 1 ≤ sumI (runA late S (ds.set k (ds[k] + 1))) ∧ sumI (runA late S (ds.set k (ds[k] + 1))) ≤ sumI (runA late S ds) + (ds.length - k) := by
  induction ds generalizing late S k with
  | nil => simp at hk
  | cons d r ih =>
    cases S with
    | nil => simp at hl
    | cons s ss =>
      cases k with
      | zero =>
        simp only [List.set_cons_zero, List.getElem_cons_zero, runA, sumI_cons, List.length_cons]
        have hst := lstep_lip (s := s) (Int.le_refl late) (show d ≤ d + 1 by omega)
        have := sumA_lip (lstep late d s) (lstep late (d + 1) s) ss r (by omega) (by omega)
        omega
      | succ k =>
        have := ih (lstep late d s) ss k (by simpa using hk) (by simpa using hl)
        simp only [List.set_cons_succ, List.getElem_cons_succ, runA, sumI_cons, List.length_cons]
        omega
/-- P70: all stops together. -/
theorem late_sum_law {n : Int} {l : List T3} {least start v : Int} {ds : List Int} (h : lateOk n l least start ds = true) (hv : v = sumV n l least start ds) (k : Nat) (hk : k < ds.length) :
    v = sumI (arrF l least start ds) ∧ ((300 < ds[k] + 1 ∧ sumV n l least start (ds.set k (ds[k] + 1)) = -1) ∨ (v + 1 ≤ sumV n l least start (ds.set k (ds[k] + 1)) ∧ sumV n l least start (ds.set k (ds[k] + 1)) ≤ v + (ds.length - k))) := by
  obtain ⟨h1, h2, h3, h4⟩ := late_len h
  obtain ⟨hs, hst, _, _⟩ := lateOk_and h
  have hd := lateOk_ds h
  have hdk := hd _ (List.getElem_mem hk)
  have hv' : v = sumI (arrF l least start ds) := by rw [hv, sumV, if_pos h]
  refine ⟨hv', ?_⟩
  by_cases hb : 300 < ds[k] + 1
  · refine .inl ⟨hb, ?_⟩
    unfold sumV; rw [if_neg fun hh => ?_]
    have := lateOk_ds hh (ds[k] + 1) (List.mem_iff_getElem.2 ⟨k, by simpa using hk, by simp⟩)
    omega
  · refine .inr ?_
    have hok : lateOk n l least start (ds.set k (ds[k] + 1)) = true := lateOk_mk hs hst (by simpa using h3) (mem_set hd (by omega))
    rw [sumV, if_pos hok, hv', arrF, arrF, sumI_cons, sumI_cons]
    have := sumA_set start ((slacks least l).drop 1) ds k hk h4
    omega
theorem sumV_ok {n : Int} {l : List T3} {least start : Int} {ds : List Int} (h : 0 ≤ sumV n l least start ds) : lateOk n l least start ds = true := by
  unfold sumV at h; split at h
  · assumption
  · omega
theorem sumV_bd (n : Int) (l : List T3) (least start : Int) (ds : List Int) : -1 ≤ sumV n l least start ds ∧ sumV n l least start ds ≤ 20000 := by
  unfold sumV; split
  · rename_i h
    obtain ⟨h1, h2, h3⟩ := arrF_bd h
    have := sumI_bd (arrF l least start ds) 2400 (fun k hk => h1 _ (List.getElem_mem hk))
    omega
  · omega
/-- P68: blame. -/
theorem late_blame_law {n : Int} {l : List T3} {least start v : Int} {ds : List Int} (h : lateOk n l least start ds = true) (hv : v = endV n l least start ds) (k : Nat) (hk : k < ds.length) :
    0 ≤ blameV n l least start ds k ∧ blameV n l least start ds k ≤ ds[k] ∧ blameV n l least start ds k ≤ v := by
  obtain ⟨h1, h2, h3, h4⟩ := late_len h
  obtain ⟨hs, hst, _, _⟩ := lateOk_and h
  have hd := lateOk_ds h
  have hdk := hd _ (List.getElem_mem hk)
  have hok : lateOk n l least start (ds.set k 0) = true := lateOk_mk hs hst (by simpa using h3) (mem_set hd (by omega))
  have e1 := endV_R h
  have e2 := endV_R hok
  have p1 := endR_nonneg start ((slacks least l).drop 1) ds hst.1 (fun d hd' => (hd d hd').1)
  have p2 := endR_nonneg start ((slacks least l).drop 1) (ds.set k 0) hst.1 (fun d hd' => (mem_set (P := fun d => 0 ≤ d) (fun d hd' => (hd d hd').1) (Int.le_refl 0) d hd'))
  have e3 := endR_set start ((slacks least l).drop 1) (ds.set k 0) k ds[k] (by simpa using hk) (by simp; omega) (by simpa using h4)
  simp only [List.set_set, List.set_getElem_self, List.getElem_set_self] at e3
  have e4 : blameV n l least start ds k = endV n l least start ds - endV n l least start (ds.set k 0) := by
    unfold blameV; rw [if_pos ⟨by omega, by omega, by omega⟩, Int.toNat_natCast]
  omega
theorem late_blame_last {n : Int} {l : List T3} {least start : Int} {ds : List Int} (h : lateOk n l least start ds = true) (hk : ds.length - 1 < ds.length) : blameV n l least start ds ((ds.length - 1 : Nat) : Int) = ds[ds.length - 1] := by
  obtain ⟨h1, h2, h3, h4⟩ := late_len h
  obtain ⟨hs, hst, _, _⟩ := lateOk_and h
  have hd := lateOk_ds h
  have hdk := hd _ (List.getElem_mem hk)
  have hok : lateOk n l least start (ds.set (ds.length - 1) 0) = true := lateOk_mk hs hst (by simpa using h3) (mem_set hd (by omega))
  have e1 := endV_R h
  have e2 := endV_R hok
  have p1 := endR_nonneg start ((slacks least l).drop 1) ds hst.1 (fun d hd' => (hd d hd').1)
  have e3 := endR_set_last start ((slacks least l).drop 1) ds 0 (by omega) h4
  have e4 : blameV n l least start ds ((ds.length - 1 : Nat) : Int) = endV n l least start ds - endV n l least start (ds.set (ds.length - 1) 0) := by
    unfold blameV; rw [if_pos ⟨by omega, by omega, by omega⟩, Int.toNat_natCast]
  omega
theorem blameV_ok {n : Int} {l : List T3} {least start : Int} {ds : List Int} {k : Int} (h : 0 ≤ blameV n l least start ds k) : lateOk n l least start ds = true ∧ 0 ≤ k ∧ k < ds.length := by
  unfold blameV at h; split at h
  · rename_i hh; exact ⟨endV_ok hh.1, hh.2⟩
  · omega

end Go.Proofs.Yteceohdchknbbaa
