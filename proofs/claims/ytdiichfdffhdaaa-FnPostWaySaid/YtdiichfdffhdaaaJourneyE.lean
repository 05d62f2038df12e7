/-
  Contracts of JourneyEnd, the reference's and the program's.
-/
import Derived.Test.YtdiichfdffhdaaaJourneyS
namespace Go.Proofs.Ytdiichfdffhdaaa
open Go.RowKit

def RetIIB (x y : Int) (b : Bool) (w : World) (e : Ending) (w' : World) : Prop := e = .returned (.tuple #[.int .i64 x, .int .i64 y, .bool b]) ∧ Below w.heap.size w w'
theorem retIIB {x y x' y' : Int} {b b' : Bool} {w w' : World} (h1 : x = x') (h2 : y = y') (h3 : b = b') (hb : Below w.heap.size w w') : RetIIB x y b w (.returned (.tuple #[.int .i64 x', .int .i64 y', .bool b'])) w' := by
  subst h1 h2 h3; exact ⟨rfl, hb⟩

theorem jend_no {n : Int} {net : Net} {rides : List T3} {change : Int} (h : jendOk n net rides change = false) : jendTown n net rides change = 0 ∧ jendTime n net rides change = 0 := by
  simp [jendTown, jendTime, h]
theorem jend_yes {n : Int} {net : Net} {rides : List T3} {change : Int} (h1 : journeyB n net rides change = true) (h2 : 0 < rides.length) :
    jendOk n net rides change = true ∧ netB n net = true ∧ rideOk net (rides[rides.length - 1]'(by omega)) = true ∧ jendTown n net rides change = (stopOf net (rides[rides.length - 1]'(by omega)).1 (rides[rides.length - 1]'(by omega)).2.2).1 ∧ jendTime n net rides change = (stopOf net (rides[rides.length - 1]'(by omega)).1 (rides[rides.length - 1]'(by omega)).2.2).2.1 := by
  have hk : rides.length - 1 < rides.length := by omega
  have e : lastRideOf rides = rides[rides.length - 1] := by
    unfold lastRideOf; rw [List.getD_eq_getElem?_getD, List.getElem?_eq_getElem hk]; rfl
  have hok : jendOk n net rides change = true := by simp [jendOk, h1, h2]
  have h1' := h1
  simp only [journeyB, Bool.and_eq_true] at h1'
  refine ⟨hok, h1'.1.1, ridesB_ok h1'.2 _ hk, ?_, ?_⟩
  · simp only [jendTown, hok, e, if_true]
  · simp only [jendTime, hok, e, if_true]

set_option maxRecDepth 100000 in
set_option maxHeartbeats 4000000 in
theorem sJourneyEnd (n : Int) (A : Option Addr) (c lo hi : Nat) (net : Net) (B : Option Addr) (d lo' hi' : Nat) (rides : List T3) (change : Int) (w : World) (hl : netSize net ≤ 1048576) (hr : RdN w lo hi A net) (hh : hi ≤ w.heap.size) (hlr : rides.length ≤ 1048576) (hrr : Rd w lo' hi' B (flat3 rides)) (hh' : hi' ≤ w.heap.size) :
    Calls Try.prog 16 #[.int .i64 n, .slice A net.length c, .slice B rides.length d, .int .i64 change] w (RetIIB (jendTown n net rides change) (jendTime n net rides change) (jendOk n net rides change) w) := by
  obtain ⟨hln, h8⟩ := net_len hl
  go_enter Try.func16, Try.ntmps16
  go_wp2_with fail
  refine (sJourneyValid n _ _ _ _ net _ _ _ _ rides change _ hl hr hh hlr hrr hh').mono ?_
  rintro e w1 ⟨rfl, hb1⟩
  cases hv : journeyB n net rides change
  · have hno := Lib.hid (show jendOk n net rides change = false by simp [jendOk, hv])
    clear hv
    go_wp2_with fail
    go_ret3
    obtain ⟨h1, h2⟩ := jend_no hno.out
    exact retIIB h1 h2 hno.out hb1
  by_cases hz : 0 < rides.length
  case neg =>
    have hno := Lib.hid (show jendOk n net rides change = false by have : ¬ 0 < rides.length := hz; simp only [jendOk, this, decide_false, Bool.and_false])
    have hz1 : rides.length = 0 := Nat.eq_zero_of_not_pos hz
    go_wp2_with fail
    go_ret3
    obtain ⟨h1, h2⟩ := jend_no hno.out
    exact retIIB h1 h2 hno.out hb1
  obtain ⟨HV1, HNB, HOK, HT1, HT2⟩ := jend_yes hv hz
  have hlk : rides.length - 1 < rides.length := by omega
  obtain ⟨bb, off, rfl, hlo, hhi, c0, c1, c2⟩ := (hrr.below hb1 hh').at3 (rides.length - 1) hlk
  obtain ⟨x, hx⟩ : ∃ x, x = rides[rides.length - 1] := ⟨_, rfl⟩
  rw [← hx] at c0 c1 c2 HOK HT1 HT2
  clear hx
  obtain ⟨xc, xf, xt, x1, x2, x3, x4, x5, x8, -, sx2⟩ := ride_get HNB HOK
  obtain ⟨bn, on, Bx, ccx, rfl, hln1, hln2, hx0, hxc, hxr⟩ := (hr.below hb1 hh) x.1.toNat xc
  obtain ⟨bx, ox, rfl, -, hbx, g0, g1, g2⟩ := hxr.at3 x.2.2.toNat xt
  rw [sx2] at HT1 HT2
  obtain ⟨mx, hmx⟩ : ∃ mx, mx = net[x.1.toNat].length := ⟨_, rfl⟩
  obtain ⟨sx, hsx⟩ : ∃ sx, sx = net[x.1.toNat][x.2.2.toNat] := ⟨_, rfl⟩
  rw [← hmx] at hx0 x5 x8 hxc
  rw [← hsx] at g0 g1 g2 HT1 HT2
  have HT1 := Lib.hid HT1
  have HT2 := Lib.hid HT2
  have HV1 := Lib.hid HV1
  clear sx2 hxr hmx hsx hv HOK HNB h8 xf xt
  have wk : IntKind.i64.wrap ((rides.length : Int) - 1) = (rides.length : Int) - 1 := IntWalk.i64_in _ (by omega)
  have ek : ((rides.length : Int) - 1).toNat = rides.length - 1 := by omega
  have z0 : (0 : Int) ≤ (rides.length : Int) - 1 := by omega
  have z00 : (0 : Int) ≤ x.2.2 := by omega
  have z1 : bn < w1.heap.size := by have := hb1.size; omega
  have z2 : bx < w1.heap.size := by have := hb1.size; omega
  go_wp2_with fail
  try go_quiet (fail)
  try go_wp2_with fail
  go_ret3
  exact retIIB HT1.out HT2.out HV1.out (by (repeat (first | exact Below.refl _ _ | assumption | apply below_alloc | apply below_drewN | apply Below.drew | refine Below.setCell ?_ (by simp; try omega) _)))

set_option maxRecDepth 100000 in
set_option maxHeartbeats 4000000 in
theorem iJourneyEnd (n : Int) (A : Option Addr) (c lo hi : Nat) (net : Net) (B : Option Addr) (d lo' hi' : Nat) (rides : List T3) (change : Int) (w : World) (hl : netSize net ≤ 1048576) (hr : RdN w lo hi A net) (hh : hi ≤ w.heap.size) (hlr : rides.length ≤ 1048576) (hrr : Rd w lo' hi' B (flat3 rides)) (hh' : hi' ≤ w.heap.size) :
    Calls Try.prog 15 #[.int .i64 n, .slice A net.length c, .slice B rides.length d, .int .i64 change] w (RetIIB (jendTown n net rides change) (jendTime n net rides change) (jendOk n net rides change) w) := by
  obtain ⟨hln, h8⟩ := net_len hl
  go_enter Try.func15, Try.ntmps15
  go_wp2_with fail
  refine (iJourneyValid n _ _ _ _ net _ _ _ _ rides change _ hl hr hh hlr hrr hh').mono ?_
  rintro e w1 ⟨rfl, hb1⟩
  cases hv : journeyB n net rides change
  · have hno := Lib.hid (show jendOk n net rides change = false by simp [jendOk, hv])
    clear hv
    go_wp2_with fail
    go_ret3
    obtain ⟨h1, h2⟩ := jend_no hno.out
    exact retIIB h1 h2 hno.out hb1
  by_cases hz : 0 < rides.length
  case neg =>
    have hno := Lib.hid (show jendOk n net rides change = false by have : ¬ 0 < rides.length := hz; simp only [jendOk, this, decide_false, Bool.and_false])
    have hz1 : rides.length = 0 := Nat.eq_zero_of_not_pos hz
    go_wp2_with fail
    go_ret3
    obtain ⟨h1, h2⟩ := jend_no hno.out
    exact retIIB h1 h2 hno.out hb1
  obtain ⟨HV1, HNB, HOK, HT1, HT2⟩ := jend_yes hv hz
  have hlk : rides.length - 1 < rides.length := by omega
  obtain ⟨bb, off, rfl, hlo, hhi, c0, c1, c2⟩ := (hrr.below hb1 hh').at3 (rides.length - 1) hlk
  obtain ⟨x, hx⟩ : ∃ x, x = rides[rides.length - 1] := ⟨_, rfl⟩
  rw [← hx] at c0 c1 c2 HOK HT1 HT2
  clear hx
  obtain ⟨xc, xf, xt, x1, x2, x3, x4, x5, x8, -, sx2⟩ := ride_get HNB HOK
  obtain ⟨bn, on, Bx, ccx, rfl, hln1, hln2, hx0, hxc, hxr⟩ := (hr.below hb1 hh) x.1.toNat xc
  obtain ⟨bx, ox, rfl, -, hbx, g0, g1, g2⟩ := hxr.at3 x.2.2.toNat xt
  rw [sx2] at HT1 HT2
  obtain ⟨mx, hmx⟩ : ∃ mx, mx = net[x.1.toNat].length := ⟨_, rfl⟩
  obtain ⟨sx, hsx⟩ : ∃ sx, sx = net[x.1.toNat][x.2.2.toNat] := ⟨_, rfl⟩
  rw [← hmx] at hx0 x5 x8 hxc
  rw [← hsx] at g0 g1 g2 HT1 HT2
  have HT1 := Lib.hid HT1
  have HT2 := Lib.hid HT2
  have HV1 := Lib.hid HV1
  clear sx2 hxr hmx hsx hv HOK HNB h8 xf xt
  have wk : IntKind.i64.wrap ((rides.length : Int) - 1) = (rides.length : Int) - 1 := IntWalk.i64_in _ (by omega)
  have ek : ((rides.length : Int) - 1).toNat = rides.length - 1 := by omega
  have z0 : (0 : Int) ≤ (rides.length : Int) - 1 := by omega
  have z00 : (0 : Int) ≤ x.2.2 := by omega
  have z1 : bn < w1.heap.size := by have := hb1.size; omega
  have z2 : bx < w1.heap.size := by have := hb1.size; omega
  go_wp2_with fail
  go_region_held3 (fun w' => w'.cell? ⟨w1.heap.size, 0, none⟩ = some (.int .i64 x.1) ∧ w'.cell? ⟨w1.heap.size, 2, none⟩ = some (.int .i64 x.2.2) ∧ w'.cell? ⟨bn, on + x.1.toNat, none⟩ = some (.slice (some ⟨bx, ox, none⟩) mx ccx) ∧ w'.cell? ⟨bx, ox + x.2.2.toNat * 3, none⟩ = some (.int .i64 sx.1) ∧ w'.cell? ⟨bx, ox + x.2.2.toNat * 3 + 1, none⟩ = some (.int .i64 sx.2.1) ∧ w'.cell? ⟨bx, ox + x.2.2.toNat * 3 + 2, none⟩ = some (.int .i64 sx.2.2)) (simp (maxDischargeDepth := 8) [*, World.cell?_alloc_some, World.cell?_setCell_far]) (fail)
  all_goals go_wp2_with fail
  all_goals (try go_quiet (fail))
  all_goals (try go_wp2_with fail)
  all_goals (go_ret3; exact retIIB HT1.out HT2.out HV1.out (by (repeat (first | exact Below.refl _ _ | assumption | apply below_alloc | apply below_drewN | apply Below.drew | refine Below.setCell ?_ (by simp; try omega) _))))

end Go.Proofs.Ytdiichfdffhdaaa
