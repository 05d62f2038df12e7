/-
  Plain words on roads in parts: valid lists, the owner of each mile, how many miles each one works.
-/
import Derived.Test.YtmeaegopenbelaaShareMath
import Derived.Test.YtmeaegopenbelaaPart
namespace Go.Proofs.Ytmeaegopenbelaa
open Go.RowKit

def partOk (p : T2) : Bool := inB p.1 0 5 && inB p.2 1 99
def partsB (ps : List T2) : Bool := ps.all partOk && inB ps.length 1 12
def ownersL : List T2 → List Int
  | [] => []
  | p :: r => List.replicate p.2.toNat p.1 ++ ownersL r
/-- How many miles each of the six works. -/
def cntL (own : List Int) : List Int := (List.range 6).map fun (k : Nat) => ((own.countP fun o => decide (o = (k : Int)) : Nat) : Int)
theorem cntL_len (own : List Int) : (cntL own).length = 6 := by simp [cntL]
theorem cntL_get (own : List Int) {k : Nat} (h : k < 6) : (cntL own).getD k 0 = ((own.countP fun o => decide (o = (k : Int)) : Nat) : Int) := by
  simp [cntL, List.getD_eq_getElem?_getD, h]
theorem cntL_nil : cntL [] = List.replicate 6 0 := by rfl
theorem cntL_add (own : List Int) {o : Int} (h0 : 0 ≤ o) (h1 : o ≤ 5) (m : Nat) : cntL (own ++ List.replicate m o) = (cntL own).set o.toNat ((cntL own).getD o.toNat 0 + m) := by
  have ho : o.toNat < 6 := by omega
  apply List.ext_getElem (by simp [cntL_len])
  intro i h2 h3
  have hi : i < 6 := by simpa [cntL_len] using h2
  have hg := cntL_get own ho
  rw [List.getElem_set]
  have hl : (cntL (own ++ List.replicate m o))[i] = ((own.countP fun o => decide (o = (i : Int)) : Nat) : Int) + if o.toNat = i then (m : Int) else 0 := by
    simp only [cntL, List.getElem_map, List.getElem_range, List.countP_append, List.countP_replicate]
    by_cases e : o.toNat = i
    · rw [if_pos e, if_pos (decide_eq_true (by omega))]; simp
    · rw [if_neg e, if_neg (by simp; omega)]; simp
  refine hl.trans ?_
  by_cases e : o.toNat = i
  · rw [if_pos e, if_pos e, hg, e]
  · rw [if_neg e, if_neg e]
    simp [cntL]
theorem cntL_snoc (own : List Int) {o : Int} (h0 : 0 ≤ o) (h1 : o ≤ 5) : cntL (own ++ [o]) = (cntL own).set o.toNat ((cntL own).getD o.toNat 0 + 1) := cntL_add own h0 h1 1
theorem cntL_bd (own : List Int) : ∀ x ∈ cntL own, 0 ≤ x ∧ x ≤ own.length := by
  intro x hx
  obtain ⟨k, _, rfl⟩ := List.mem_map.1 hx
  have := List.countP_le_length (p := fun o => decide (o = (k : Int))) (l := own)
  exact ⟨by omega, by omega⟩
theorem sum_set {L : List Int} {k : Nat} (h : k < L.length) (x : Int) : sumI (L.set k x) = sumI L + x - L.getD k 0 := by
  induction L generalizing k with
  | nil => simp at h
  | cons a r ih =>
    cases k with
    | zero => simp [sumI_cons]; omega
    | succ k =>
      have := ih (k := k) (by simpa using h)
      simp only [List.set_cons_succ, sumI_cons, List.getD_cons_succ] at *
      omega
theorem cntL_sum (own : List Int) (h : ∀ o ∈ own, 0 ≤ o ∧ o ≤ 5) : sumI (cntL own) = own.length := by
  have key : ∀ (b a : List Int), (∀ o ∈ b, 0 ≤ o ∧ o ≤ 5) → sumI (cntL (a ++ b)) = sumI (cntL a) + b.length := by
    intro b
    induction b with
    | nil => intro a _; simp
    | cons o r ih =>
      intro a hb
      have ho := hb o (by simp)
      have := ih (a ++ [o]) fun x hx => hb x (by simp [hx])
      rw [List.append_assoc, List.singleton_append, cntL_snoc a ho.1 ho.2, sum_set (by rw [cntL_len]; omega)] at this
      rw [this, List.length_cons]
      omega
  have := key own [] h
  simpa [cntL_nil, sumI] using this
theorem ownersL_append (a b : List T2) : ownersL (a ++ b) = ownersL a ++ ownersL b := by
  induction a with
  | nil => rfl
  | cons p r ih => simp only [List.cons_append, ownersL, ih, List.append_assoc]
theorem parts_and {ps : List T2} (h : partsB ps = true) : (∀ p ∈ ps, 0 ≤ p.1 ∧ p.1 ≤ 5 ∧ 1 ≤ p.2 ∧ p.2 ≤ 99) ∧ 1 ≤ ps.length ∧ ps.length ≤ 12 := by
  simp only [partsB, Bool.and_eq_true, List.all_eq_true, partOk, inB, decide_eq_true_eq] at h
  refine ⟨fun p hp => ?_, by omega, by omega⟩
  have := h.1 p hp
  omega
theorem owners_in {ps : List T2} (h : ∀ p ∈ ps, 0 ≤ p.1 ∧ p.1 ≤ 5 ∧ 1 ≤ p.2 ∧ p.2 ≤ 99) : (∀ o ∈ ownersL ps, 0 ≤ o ∧ o ≤ 5) ∧ (ownersL ps).length ≤ 99 * ps.length ∧ ps.length ≤ (ownersL ps).length := by
  induction ps with
  | nil => simp [ownersL]
  | cons p r ih =>
    obtain ⟨h1, h2, h3⟩ := ih fun q hq => h q (by simp [hq])
    have hp := h p (by simp)
    refine ⟨fun o ho => ?_, ?_, ?_⟩
    · rw [ownersL, List.mem_append] at ho
      rcases ho with ho | ho
      · have := (List.mem_replicate.1 ho).2; omega
      · exact h1 o ho
    · simp only [ownersL, List.length_append, List.length_replicate, List.length_cons]; omega
    · simp only [ownersL, List.length_append, List.length_replicate, List.length_cons]; omega
theorem owners_take_succ {ps : List T2} {k : Nat} (h : k < ps.length) : ownersL (ps.take (k + 1)) = ownersL (ps.take k) ++ List.replicate ps[k].2.toNat ps[k].1 := by
  rw [List.take_succ_eq_append_getElem h, ownersL_append]; simp [ownersL]
theorem owners_take_len {ps : List T2} (h : ∀ p ∈ ps, 0 ≤ p.1 ∧ p.1 ≤ 5 ∧ 1 ≤ p.2 ∧ p.2 ≤ 99) (k : Nat) : (ownersL (ps.take k)).length ≤ 99 * ps.length ∧ (∀ o ∈ ownersL (ps.take k), 0 ≤ o ∧ o ≤ 5) := by
  have := owners_in (ps := ps.take k) fun p hp => h p (List.mem_of_mem_take hp)
  have h2 : (ps.take k).length ≤ ps.length := by rw [List.length_take]; omega
  exact ⟨by omega, this.1⟩
/-- What PartsLength, PartsMiles, a stretch, the shares are. -/
def lenV (ps : List T2) : Int := if partsB ps then ((ownersL ps).length : Nat) else -1
def milesV (ps : List T2) : List Int := if partsB ps then cntL (ownersL ps) else []
def stretchB (ps : List T2) (a b : Int) : Bool := partsB ps && decide (0 ≤ a ∧ a < b ∧ b ≤ (ownersL ps).length)
def stretchL (ps : List T2) (a b : Int) : List Int := ((ownersL ps).take b.toNat).drop a.toNat
def makeOk (ps : List T2) (a : Int) : Bool := partsB ps && inB a 0 1000000
def makeV (ps : List T2) (a : Int) : List Int := if makeOk ps a then shareL (cntL (ownersL ps)) a else []
def rideShOk (ps : List T2) (f t a : Int) : Bool := stretchB ps f t && inB a 0 1000000
def rideShV (ps : List T2) (f t a : Int) : List Int := if rideShOk ps f t a then shareL (cntL (stretchL ps f t)) a else []
def settleOk (ps : List T2) (tk : List Int) : Bool := partsB ps && decide (tk.length = 6) && tk.all (fun x => inB x 0 1000000) && decide (sumI tk ≤ 1000000)
def minusL (a b : List Int) : List Int := (List.range a.length).map fun i => a.getD i 0 - b.getD i 0
def settleV (ps : List T2) (tk : List Int) : List Int := if settleOk ps tk then minusL (shareL (cntL (ownersL ps)) (sumI tk)) tk else []
theorem cnt_pos {own : List Int} (h : ∀ o ∈ own, 0 ≤ o ∧ o ≤ 5) (hl : 0 < own.length) : 0 < sumI (cntL own) := by
  rw [cntL_sum own h]; omega
theorem parts_pos {ps : List T2} (h : partsB ps = true) : 0 < sumI (cntL (ownersL ps)) ∧ sumI (cntL (ownersL ps)) = (ownersL ps).length ∧ (ownersL ps).length ≤ 1188 ∧ 1 ≤ (ownersL ps).length ∧ ∀ o ∈ ownersL ps, 0 ≤ o ∧ o ≤ 5 := by
  obtain ⟨h1, h2, h3⟩ := parts_and h
  obtain ⟨g1, g2, g3⟩ := owners_in h1
  have := cntL_sum _ g1
  exact ⟨by omega, this, by omega, by omega, g1⟩
theorem stretch_and {ps : List T2} {a b : Int} (h : stretchB ps a b = true) : partsB ps = true ∧ 0 ≤ a ∧ a < b ∧ b ≤ (ownersL ps).length ∧ (stretchL ps a b).length = (b - a).toNat ∧ (∀ o ∈ stretchL ps a b, 0 ≤ o ∧ o ≤ 5) ∧ 0 < sumI (cntL (stretchL ps a b)) ∧ sumI (cntL (stretchL ps a b)) = b - a := by
  simp only [stretchB, Bool.and_eq_true, decide_eq_true_eq] at h
  obtain ⟨h1, h2, h3, h4⟩ := h
  have hl : (stretchL ps a b).length = (b - a).toNat := by
    unfold stretchL; rw [List.length_drop, List.length_take]; omega
  have hin : ∀ o ∈ stretchL ps a b, 0 ≤ o ∧ o ≤ 5 := fun o ho => (parts_pos h1).2.2.2.2 o (List.mem_of_mem_take (List.mem_of_mem_drop ho))
  have hs := cntL_sum _ hin
  exact ⟨h1, h2, h3, h4, hl, hin, by omega, by omega⟩
theorem stretch_all {ps : List T2} (h : partsB ps = true) : stretchB ps 0 (ownersL ps).length = true ∧ stretchL ps 0 (ownersL ps).length = ownersL ps := by
  have := parts_pos h
  refine ⟨?_, ?_⟩
  · simp only [stretchB, Bool.and_eq_true, decide_eq_true_eq]
    exact ⟨h, by omega⟩
  · unfold stretchL
    simp
theorem stretch_next {ps : List T2} {a i : Int} (h0 : 0 ≤ a) (h1 : a ≤ i) (h2 : i.toNat < (ownersL ps).length) : stretchL ps a (i + 1) = stretchL ps a i ++ [(ownersL ps)[i.toNat]] := by
  unfold stretchL
  rw [show (i + 1).toNat = i.toNat + 1 by omega, List.take_succ_eq_append_getElem h2, List.drop_append_of_le_length (by rw [List.length_take]; omega)]
theorem stretch_none {ps : List T2} {a : Int} : stretchL ps a a = [] := by
  unfold stretchL
  rw [List.drop_eq_nil_of_le]
  rw [List.length_take]; omega

end Go.Proofs.Ytmeaegopenbelaa
