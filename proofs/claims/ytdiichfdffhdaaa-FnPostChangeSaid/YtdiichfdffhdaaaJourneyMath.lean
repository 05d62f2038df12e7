/-
  Plain words on journeys over a net.
-/
import Derived.Test.YtdiichfdffhdaaaNetFns
namespace Go.Proofs.Ytdiichfdffhdaaa
open Go.RowKit

def coachOf (net : Net) (c : Int) : List T3 := net.getD c.toNat []
def stopOf (net : Net) (c i : Int) : T3 := (coachOf net c).getD i.toNat (0, 0, 0)
/-- A ride is (coach, from, to). -/
def rideOk (net : Net) (r : T3) : Bool := decide (0 ≤ r.1 ∧ r.1 < net.length ∧ 0 ≤ r.2.1 ∧ r.2.1 < r.2.2 ∧ r.2.2 < (coachOf net r.1).length)
def linkOk (net : Net) (change : Int) (a r : T3) : Bool := decide ((stopOf net a.1 a.2.2).1 = (stopOf net r.1 r.2.1).1 ∧ (stopOf net a.1 a.2.2).2.1 + change ≤ (stopOf net r.1 r.2.1).2.2)
def ridesB (net : Net) (change : Int) : Option T3 → List T3 → Bool
  | _, [] => true
  | none, r :: rs => rideOk net r && ridesB net change (some r) rs
  | some a, r :: rs => rideOk net r && linkOk net change a r && ridesB net change (some r) rs
def journeyB (n : Int) (net : Net) (rides : List T3) (change : Int) : Bool := netB n net && inB change 0 300 && ridesB net change none rides
def prevOf (rides : List T3) (k : Nat) : Option T3 := if k = 0 then none else rides[k - 1]?
theorem rides_bad {net : Net} {change : Int} {rides : List T3} {k : Nat} (H : ridesB net change none rides = ridesB net change (prevOf rides k) (rides.drop k)) (hk : k < rides.length) (hb : rideOk net rides[k] = false) : ridesB net change none rides = false := by
  rw [H, List.drop_eq_getElem_cons hk]
  cases prevOf rides k <;> simp [ridesB, hb]
theorem rides_cut {net : Net} {change : Int} {rides : List T3} {k : Nat} {a : T3} (H : ridesB net change none rides = ridesB net change (prevOf rides (k + 1)) (rides.drop (k + 1))) (hk : k + 1 < rides.length) (ha : a = rides[k]) (hb : linkOk net change a rides[k + 1] = false) : ridesB net change none rides = false := by
  rw [H, List.drop_eq_getElem_cons hk]
  have : prevOf rides (k + 1) = some a := by simp [prevOf, ha]
  rw [this]; simp [ridesB, hb]
theorem rides_first {net : Net} {change : Int} {rides : List T3} (hk : 0 < rides.length) (hb : rideOk net rides[0] = true) : ridesB net change none rides = ridesB net change (prevOf rides 1) (rides.drop 1) := by
  have e : rides = rides[0] :: rides.drop 1 := by
    have := List.drop_eq_getElem_cons hk
    simpa using this
  have : prevOf rides 1 = some rides[0] := by simp [prevOf, hk]
  rw [this]
  conv => lhs; rw [e]
  simp [ridesB, hb]
theorem rides_go {net : Net} {change : Int} {rides : List T3} {k : Nat} {a : T3} (H : ridesB net change none rides = ridesB net change (prevOf rides (k + 1)) (rides.drop (k + 1))) (hk : k + 1 < rides.length) (ha : a = rides[k]) (hb : rideOk net rides[k + 1] = true) (hl : linkOk net change a rides[k + 1] = true) :
    ridesB net change none rides = ridesB net change (prevOf rides (k + 1 + 1)) (rides.drop (k + 1 + 1)) := by
  have e1 : prevOf rides (k + 1) = some a := by simp [prevOf, ha]
  have e2 : prevOf rides (k + 1 + 1) = some rides[k + 1] := by simp [prevOf, hk]
  rw [H, e1, e2, List.drop_eq_getElem_cons hk]
  simp [ridesB, hb, hl]
theorem rides_end {net : Net} {change : Int} {rides : List T3} {k : Nat} (H : ridesB net change none rides = ridesB net change (prevOf rides k) (rides.drop k)) (hk : ¬ k < rides.length) : ridesB net change none rides = true := by
  rw [H, List.drop_eq_nil_of_le (by omega)]
  cases prevOf rides k <;> rfl
/-- The end of a journey: town, time. -/
def jendOk (n : Int) (net : Net) (rides : List T3) (change : Int) : Bool := journeyB n net rides change && decide (0 < rides.length)
def lastRideOf (rides : List T3) : T3 := rides.getD (rides.length - 1) (0, 0, 0)
def jendTown (n : Int) (net : Net) (rides : List T3) (change : Int) : Int := if jendOk n net rides change then (stopOf net (lastRideOf rides).1 (lastRideOf rides).2.2).1 else 0
def jendTime (n : Int) (net : Net) (rides : List T3) (change : Int) : Int := if jendOk n net rides change then (stopOf net (lastRideOf rides).1 (lastRideOf rides).2.2).2.1 else 0
theorem ridesB_ok {net : Net} {change : Int} {p : Option T3} {rides : List T3} (h : ridesB net change p rides = true) (k : Nat) (hk : k < rides.length) : rideOk net rides[k] = true := by
  induction rides generalizing p k with
  | nil => simp at hk
  | cons r rs ih =>
    have h1 : rideOk net r = true ∧ ridesB net change (some r) rs = true := by
      cases p <;> simp only [ridesB, Bool.and_eq_true] at h
      · exact h
      · exact ⟨h.1.1, h.2⟩
    cases k with
    | zero => exact h1.1
    | succ k => exact ih h1.2 k (by simpa using hk)
theorem netB_and {n : Int} {net : Net} (h : netB n net = true) : (1 ≤ n ∧ n ≤ 8) ∧ net.length ≤ 6 ∧ ∀ k (hk : k < net.length), stopsB n net[k] = true := by
  simp only [netB, Bool.and_eq_true, decide_eq_true_eq, List.all_eq_true] at h
  exact ⟨⟨h.1.1, h.1.2.1⟩, h.1.2.2, fun k hk => h.2 _ (List.getElem_mem hk)⟩
/-- What a ride of a valid net leads to. -/
theorem ride_get {n : Int} {net : Net} {r : T3} (hn : netB n net = true) (h : rideOk net r = true) :
    ∃ (hc : r.1.toNat < net.length) (hf : r.2.1.toNat < net[r.1.toNat].length) (ht : r.2.2.toNat < net[r.1.toNat].length), 0 ≤ r.1 ∧ r.1 < net.length ∧ 0 ≤ r.2.1 ∧ r.2.1 < r.2.2 ∧ r.2.2 < net[r.1.toNat].length ∧ net[r.1.toNat].length ≤ 8 ∧
      stopOf net r.1 r.2.1 = net[r.1.toNat][r.2.1.toNat] ∧ stopOf net r.1 r.2.2 = net[r.1.toNat][r.2.2.toNat] := by
  have h := of_decide_eq_true h
  obtain ⟨h1, h2, h3, h4, h5⟩ := h
  have hc : r.1.toNat < net.length := by omega
  have e : coachOf net r.1 = net[r.1.toNat] := by unfold coachOf; rw [List.getD_eq_getElem?_getD, List.getElem?_eq_getElem hc]; rfl
  rw [e] at h5
  have h8 := (stopsB_n ((netB_and hn).2.2 _ hc)).2.2.2
  have hf : r.2.1.toNat < net[r.1.toNat].length := by omega
  have ht : r.2.2.toNat < net[r.1.toNat].length := by omega
  refine ⟨hc, hf, ht, h1, h2, h3, h4, h5, h8, ?_, ?_⟩
  · unfold stopOf; rw [e, List.getD_eq_getElem?_getD, List.getElem?_eq_getElem hf]; rfl
  · unfold stopOf; rw [e, List.getD_eq_getElem?_getD, List.getElem?_eq_getElem ht]; rfl

end Go.Proofs.Ytdiichfdffhdaaa
