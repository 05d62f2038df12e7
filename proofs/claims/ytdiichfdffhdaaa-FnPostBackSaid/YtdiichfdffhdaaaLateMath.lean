/-
  Plain words on lateness.
-/
import Derived.Test.YtdiichfdffhdaaaStopsMath
namespace Go.Proofs.Ytdiichfdffhdaaa
open Go.RowKit

def slackOf (least : Int) (s : T3) : Int := max 0 (s.2.2 - s.2.1 - least)
def slacks (least : Int) : List T3 → List Int
  | [] => []
  | _ :: r => 0 :: r.map (slackOf least)
def slackOk (n : Int) (l : List T3) (least : Int) : Bool := stopsB n l && inB least 0 300
def slackL (n : Int) (l : List T3) (least : Int) : List Int := if slackOk n l least then slacks least l else []
def sumI (l : List Int) : Int := l.foldl (· + ·) 0
/-- The sum of the slacks between, or -1. -/
def freeV (n : Int) (l : List T3) (least : Int) : Int := if slackOk n l least then min (sumI ((slacks least l).take (l.length - 1))) 300 else -1
theorem slacks_length (least : Int) (l : List T3) : (slacks least l).length = l.length := by cases l <;> simp [slacks]
theorem slacks_get (least : Int) (l : List T3) (k : Nat) (h : k < l.length) (h0 : 0 < k) : (slacks least l)[k]'(by rw [slacks_length]; exact h) = slackOf least l[k] := by
  cases l with
  | nil => simp at h
  | cons s r =>
    cases k with
    | zero => omega
    | succ k => simp [slacks]
theorem slacks_zero (least : Int) (l : List T3) (h : 0 < l.length) : (slacks least l)[0]'(by rw [slacks_length]; exact h) = 0 := by
  cases l with
  | nil => simp at h
  | cons s r => simp [slacks]
theorem outLen_LateSlack {n : Int} {l : List T3} {least : Int} (h : l.length ≤ 1048576) : (slackL n l least).length ≤ 1048576 := by
  unfold slackL; split
  · rw [slacks_length]; exact h
  · simp
theorem slackOk_and {n : Int} {l : List T3} {least : Int} (h : slackOk n l least = true) : stopsB n l = true ∧ 0 ≤ least ∧ least ≤ 300 := by
  simp only [slackOk, Bool.and_eq_true] at h; exact ⟨h.1, of_inB h.2⟩
theorem slackOf_bd {least : Int} {s : T3} (h1 : 0 ≤ s.2.1) (h2 : s.2.2 ≤ 10000) (h0 : 0 ≤ least) : 0 ≤ slackOf least s ∧ slackOf least s ≤ 10000 := by
  unfold slackOf; omega
theorem slacks_bd {n : Int} {l : List T3} {least : Int} (h : slackOk n l least = true) (k : Nat) (hk : k < (slacks least l).length) : 0 ≤ (slacks least l)[k] ∧ (slacks least l)[k] ≤ 10000 := by
  obtain ⟨hv, h0, _⟩ := slackOk_and h
  have hk' : k < l.length := by rw [slacks_length] at hk; exact hk
  have hg := stopsB_get hv k hk'
  rcases Nat.eq_zero_or_pos k with rfl | hp
  · rw [slacks_zero least l hk']; omega
  · rw [slacks_get least l k hk' hp]; exact slackOf_bd (by omega) (by omega) h0
theorem slacks_take_succ (least : Int) (l : List T3) (k : Nat) (h : k < l.length) (h0 : 0 < k) : (slacks least l).take (k + 1) = (slacks least l).take k ++ [slackOf least l[k]] := by
  rw [List.take_succ_eq_append_getElem (by rw [slacks_length]; exact h), slacks_get least l k h h0]
theorem slacks_take_one (least : Int) (l : List T3) (h : 0 < l.length) : (slacks least l).take 1 = [0] := by
  cases l with
  | nil => simp at h
  | cons s r => simp [slacks]
theorem sumI_snoc (l : List Int) (x : Int) : sumI (l ++ [x]) = sumI l + x := by simp [sumI, List.foldl_append]
theorem sumI_nil : sumI [] = 0 := rfl
theorem foldl_add (l : List Int) (a : Int) : l.foldl (· + ·) a = a + l.foldl (· + ·) 0 := by
  induction l generalizing a with
  | nil => simp
  | cons x r ih => simp only [List.foldl_cons]; rw [ih, ih (0 + x)]; omega
theorem sumI_cons (x : Int) (l : List Int) : sumI (x :: l) = x + sumI l := by
  unfold sumI; rw [List.foldl_cons, foldl_add]; omega
theorem sumI_append (a b : List Int) : sumI (a ++ b) = sumI a + sumI b := by
  induction a with
  | nil => simp [sumI_nil]
  | cons x r ih => rw [List.cons_append, sumI_cons, sumI_cons, ih]; omega
theorem sumI_bd (l : List Int) (B : Int) (h : ∀ k (hk : k < l.length), 0 ≤ l[k] ∧ l[k] ≤ B) : 0 ≤ sumI l ∧ sumI l ≤ l.length * B := by
  induction l with
  | nil => simp [sumI_nil]
  | cons x r ih =>
    have h0 := h 0 (by simp)
    have hr := ih (fun k hk => by have := h (k + 1) (by simpa using hk); simpa using this)
    rw [sumI_cons]
    simp only [List.getElem_cons_zero] at h0
    have : ((x :: r).length : Int) * B = r.length * B + B := by
      simp only [List.length_cons]; rw [Int.natCast_add, Int.add_mul]; simp
    omega

def lstep (late d s : Int) : Int := max 0 (late + d - s)
def runA (late : Int) : List Int → List Int → List Int
  | s :: ss, d :: ds => (late + d) :: runA (lstep late d s) ss ds
  | _, _ => []
def runL (late : Int) : List Int → List Int → List Int
  | s :: ss, d :: ds => lstep late d s :: runL (lstep late d s) ss ds
  | _, _ => []
def lateOk (n : Int) (l : List T3) (least start : Int) (ds : List Int) : Bool := slackOk n l least && inB start 0 300 && decide (ds.length + 1 = l.length) && ds.all fun d => inB d 0 300
def arrF (l : List T3) (least start : Int) (ds : List Int) : List Int := start :: runA start ((slacks least l).drop 1) ds
def leaF (l : List T3) (least start : Int) (ds : List Int) : List Int := start :: runL start ((slacks least l).drop 1) ds
def arrL (n : Int) (l : List T3) (least start : Int) (ds : List Int) : List Int := if lateOk n l least start ds then arrF l least start ds else []
def leaL (n : Int) (l : List T3) (least start : Int) (ds : List Int) : List Int := if lateOk n l least start ds then leaF l least start ds else []
theorem runA_step (late : Int) (S ds : List Int) (k : Nat) (hS : k + 1 < S.length) (hd : k < ds.length) : runA late (S.drop (k + 1)) (ds.drop k) = (late + ds[k]) :: runA (lstep late ds[k] S[k + 1]) (S.drop (k + 1 + 1)) (ds.drop (k + 1)) := by
  rw [List.drop_eq_getElem_cons hS, List.drop_eq_getElem_cons hd, runA]
theorem runL_step (late : Int) (S ds : List Int) (k : Nat) (hS : k + 1 < S.length) (hd : k < ds.length) : runL late (S.drop (k + 1)) (ds.drop k) = lstep late ds[k] S[k + 1] :: runL (lstep late ds[k] S[k + 1]) (S.drop (k + 1 + 1)) (ds.drop (k + 1)) := by
  rw [List.drop_eq_getElem_cons hS, List.drop_eq_getElem_cons hd, runL]
theorem runA_end (late : Int) (S ds : List Int) (k : Nat) (hd : ds.length ≤ k) : runA late S (ds.drop k) = [] := by
  rw [List.drop_eq_nil_of_le hd]; cases S <;> rfl
theorem runL_end (late : Int) (S ds : List Int) (k : Nat) (hd : ds.length ≤ k) : runL late S (ds.drop k) = [] := by
  rw [List.drop_eq_nil_of_le hd]; cases S <;> rfl
theorem runA_length (late : Int) (S ds : List Int) : (runA late S ds).length ≤ ds.length := by
  induction ds generalizing S late with
  | nil => cases S <;> simp [runA]
  | cons d r ih => cases S with
    | nil => simp [runA]
    | cons s ss => simp only [runA, List.length_cons]; have := ih (lstep late d s) ss; omega
theorem runL_length (late : Int) (S ds : List Int) : (runL late S ds).length ≤ ds.length := by
  induction ds generalizing S late with
  | nil => cases S <;> simp [runL]
  | cons d r ih => cases S with
    | nil => simp [runL]
    | cons s ss => simp only [runL, List.length_cons]; have := ih (lstep late d s) ss; omega
theorem lateOk_and {n : Int} {l : List T3} {least start : Int} {ds : List Int} (h : lateOk n l least start ds = true) : slackOk n l least = true ∧ (0 ≤ start ∧ start ≤ 300) ∧ ds.length + 1 = l.length ∧ ds.all (fun d => inB d 0 300) = true := by
  simp only [lateOk, Bool.and_eq_true, decide_eq_true_eq] at h
  exact ⟨h.1.1.1, of_inB h.1.1.2, h.1.2, h.2⟩
theorem all_get {ds : List Int} (h : ds.all (fun d => inB d 0 300) = true) (k : Nat) (hk : k < ds.length) : 0 ≤ ds[k] ∧ ds[k] ≤ 300 := by
  rw [List.all_eq_true] at h; exact of_inB (h ds[k] (List.getElem_mem hk))
theorem all_take_succ {ds : List Int} (k : Nat) (hk : k < ds.length) (h : (ds.take k).all (fun d => inB d 0 300) = true) (hd : inB ds[k] 0 300 = true) : (ds.take (k + 1)).all (fun d => inB d 0 300) = true := by
  rw [List.take_succ_eq_append_getElem hk, List.all_append, h]; simp [hd]
theorem all_false {ds : List Int} (k : Nat) (hk : k < ds.length) (hd : inB ds[k] 0 300 = false) : ds.all (fun d => inB d 0 300) = false := by
  rw [List.all_eq_false]; exact ⟨ds[k], List.getElem_mem hk, by simp [hd]⟩
theorem lstep_bd {late d s B : Int} (h0 : 0 ≤ late) (h1 : late ≤ B) (h2 : 0 ≤ d) (h3 : d ≤ 300) (h4 : 0 ≤ s) : 0 ≤ lstep late d s ∧ lstep late d s ≤ B + 300 := by
  unfold lstep; omega
theorem outLen_LateArrive {n : Int} {l : List T3} {least start : Int} {ds : List Int} (h : l.length ≤ 1048576) : (arrL n l least start ds).length ≤ 1048576 := by
  unfold arrL; split
  · rename_i hh
    have := (lateOk_and hh).2.2.1
    have := runA_length start ((slacks least l).drop 1) ds
    simp only [arrF, List.length_cons]; omega
  · simp
theorem outLen_LateLeave {n : Int} {l : List T3} {least start : Int} {ds : List Int} (h : l.length ≤ 1048576) : (leaL n l least start ds).length ≤ 1048576 := by
  unfold leaL; split
  · rename_i hh
    have := (lateOk_and hh).2.2.1
    have := runL_length start ((slacks least l).drop 1) ds
    simp only [leaF, List.length_cons]; omega
  · simp

def lastD (l : List Int) : Int := l.getD (l.length - 1) 0
def endV (n : Int) (l : List T3) (least start : Int) (ds : List Int) : Int := if lateOk n l least start ds then lastD (arrF l least start ds) else -1
def sumV (n : Int) (l : List T3) (least start : Int) (ds : List Int) : Int := if lateOk n l least start ds then sumI (arrF l least start ds) else -1
theorem runA_bd (late B : Int) (S ds : List Int) (h0 : 0 ≤ late) (h1 : late ≤ B) (hS : ∀ s ∈ S, 0 ≤ s) (hd : ∀ d ∈ ds, 0 ≤ d ∧ d ≤ 300) : ∀ x ∈ runA late S ds, 0 ≤ x ∧ x ≤ B + 300 * ds.length := by
  induction ds generalizing late B S with
  | nil => cases S <;> simp [runA]
  | cons d r ih =>
    cases S with
    | nil => simp [runA]
    | cons s ss =>
      intro x hx
      have hd0 := hd d (by simp)
      have hs0 := hS s (by simp)
      have hl := lstep_bd h0 h1 hd0.1 hd0.2 hs0
      simp only [runA, List.mem_cons] at hx
      simp only [List.length_cons]
      rcases hx with rfl | hx
      · omega
      · have := ih (lstep late d s) (B + 300) ss hl.1 hl.2 (fun s hs => hS s (by simp [hs])) (fun d hd' => hd d (by simp [hd'])) x hx
        omega
theorem mem_slacks {n : Int} {l : List T3} {least : Int} (h : slackOk n l least = true) : ∀ s ∈ slacks least l, 0 ≤ s ∧ s ≤ 10000 := by
  intro s hs
  obtain ⟨k, hk, rfl⟩ := List.mem_iff_getElem.1 hs
  exact slacks_bd h k hk
theorem arrF_bd {n : Int} {l : List T3} {least start : Int} {ds : List Int} (h : lateOk n l least start ds = true) : (∀ x ∈ arrF l least start ds, 0 ≤ x ∧ x ≤ 2400) ∧ 0 < (arrF l least start ds).length ∧ (arrF l least start ds).length ≤ 8 := by
  obtain ⟨hs, hst, hlen, hall⟩ := lateOk_and h
  obtain ⟨_, _, _, hl8⟩ := stopsB_n (slackOk_and hs).1
  refine ⟨?_, by simp [arrF], ?_⟩
  · intro x hx
    simp only [arrF, List.mem_cons] at hx
    rcases hx with rfl | hx
    · omega
    · have := runA_bd start 300 _ ds hst.1 hst.2 (fun s hs' => (mem_slacks hs s (List.mem_of_mem_drop hs')).1) (fun d hd => by rw [List.all_eq_true] at hall; exact of_inB (hall d hd)) x hx
      omega
  · have := runA_length start ((slacks least l).drop 1) ds
    simp only [arrF, List.length_cons]; omega

theorem runA_len (late : Int) (S ds : List Int) (h : ds.length ≤ S.length) : (runA late S ds).length = ds.length := by
  induction ds generalizing S late with
  | nil => cases S <;> simp [runA]
  | cons d r ih => cases S with
    | nil => simp at h
    | cons s ss => simp only [runA, List.length_cons]; rw [ih (lstep late d s) ss (by simpa using h)]
theorem runL_len (late : Int) (S ds : List Int) (h : ds.length ≤ S.length) : (runL late S ds).length = ds.length := by
  induction ds generalizing S late with
  | nil => cases S <;> simp [runL]
  | cons d r ih => cases S with
    | nil => simp at h
    | cons s ss => simp only [runL, List.length_cons]; rw [ih (lstep late d s) ss (by simpa using h)]
theorem arrF_len {n : Int} {l : List T3} {least start : Int} {ds : List Int} (h : lateOk n l least start ds = true) : (arrF l least start ds).length = l.length := by
  have hlen := (lateOk_and h).2.2.1
  rw [arrF, List.length_cons, runA_len _ _ _ (by rw [List.length_drop, slacks_length]; omega)]; exact hlen
theorem leaF_len {n : Int} {l : List T3} {least start : Int} {ds : List Int} (h : lateOk n l least start ds = true) : (leaF l least start ds).length = l.length := by
  have hlen := (lateOk_and h).2.2.1
  rw [leaF, List.length_cons, runL_len _ _ _ (by rw [List.length_drop, slacks_length]; omega)]; exact hlen
theorem runL_bd (late B : Int) (S ds : List Int) (h0 : 0 ≤ late) (h1 : late ≤ B) (hS : ∀ s ∈ S, 0 ≤ s) (hd : ∀ d ∈ ds, 0 ≤ d ∧ d ≤ 300) : ∀ x ∈ runL late S ds, 0 ≤ x ∧ x ≤ B + 300 * ds.length := by
  induction ds generalizing late B S with
  | nil => cases S <;> simp [runL]
  | cons d r ih =>
    cases S with
    | nil => simp [runL]
    | cons s ss =>
      intro x hx
      have hd0 := hd d (by simp)
      have hs0 := hS s (by simp)
      have hl := lstep_bd h0 h1 hd0.1 hd0.2 hs0
      simp only [runL, List.mem_cons] at hx
      simp only [List.length_cons]
      rcases hx with rfl | hx
      · omega
      · have := ih (lstep late d s) (B + 300) ss hl.1 hl.2 (fun s hs => hS s (by simp [hs])) (fun d hd' => hd d (by simp [hd'])) x hx
        omega
theorem leaF_bd {n : Int} {l : List T3} {least start : Int} {ds : List Int} (h : lateOk n l least start ds = true) : ∀ x ∈ leaF l least start ds, 0 ≤ x ∧ x ≤ 2400 := by
  obtain ⟨hs, hst, hlen, hall⟩ := lateOk_and h
  obtain ⟨_, _, _, hl8⟩ := stopsB_n (slackOk_and hs).1
  intro x hx
  simp only [leaF, List.mem_cons] at hx
  rcases hx with rfl | hx
  · omega
  · have := runL_bd start 300 _ ds hst.1 hst.2 (fun s hs' => (mem_slacks hs s (List.mem_of_mem_drop hs')).1) (fun d hd => by rw [List.all_eq_true] at hall; exact of_inB (hall d hd)) x hx
    omega
theorem lastD_mem {l : List Int} (h : 0 < l.length) : lastD l ∈ l := by
  unfold lastD
  rw [List.getD_eq_getElem?_getD, List.getElem?_eq_getElem (by omega)]
  exact List.getElem_mem _
theorem endV_bd (n : Int) (l : List T3) (least start : Int) (ds : List Int) : -1 ≤ endV n l least start ds ∧ endV n l least start ds ≤ 2400 := by
  unfold endV; split
  · rename_i h
    obtain ⟨h1, h2, _⟩ := arrF_bd h
    have := h1 _ (lastD_mem h2)
    omega
  · omega
def blameV (n : Int) (l : List T3) (least start : Int) (ds : List Int) (k : Int) : Int :=
  if 0 ≤ endV n l least start ds ∧ 0 ≤ k ∧ k < ds.length then endV n l least start ds - endV n l least start (ds.set k.toNat 0) else -1
def lmove (l : List T3) (a b : List Int) (i : Nat) : T3 := ((l.getD i (0, 0, 0)).1, (l.getD i (0, 0, 0)).2.1 + (if i = 0 then 0 else a.getD i 0), (l.getD i (0, 0, 0)).2.2 + b.getD i 0)
def lmoved (l : List T3) (a b : List Int) : List T3 := (List.range l.length).map (lmove l a b)
def lstopsOk (n : Int) (l : List T3) (least start : Int) (ds : List Int) : Bool := lateOk n l least start ds && stopsB n (lmoved l (arrF l least start ds) (leaF l least start ds))
def lstopsL (n : Int) (l : List T3) (least start : Int) (ds : List Int) : List T3 := if lstopsOk n l least start ds then lmoved l (arrF l least start ds) (leaF l least start ds) else []
theorem lmoved_len (l : List T3) (a b : List Int) : (lmoved l a b).length = l.length := by simp [lmoved]
theorem range_map_succ {α : Type} (f : Nat → α) (k : Nat) : (List.range (k + 1)).map f = (List.range k).map f ++ [f k] := by simp [List.range_succ]
theorem getD_of_lt {α : Type} (l : List α) (k : Nat) (z : α) (h : k < l.length) : l.getD k z = l[k] := by
  rw [List.getD_eq_getElem?_getD, List.getElem?_eq_getElem h]; rfl
theorem outLen_LateStops {n : Int} {l : List T3} {least start : Int} {ds : List Int} (h : l.length ≤ 1048576) : (lstopsL n l least start ds).length ≤ 1048576 := by
  unfold lstopsL; split
  · rw [lmoved_len]; exact h
  · simp

end Go.Proofs.Ytdiichfdffhdaaa
