/-
  Contracts of JourneyValid and JourneyEnd, the reference's and the program's.
-/
import Derived.Test.YtdiichfdffhdaaaJourneyMath
import Derived.Test.YtdiichfdffhdaaaDelay
import Derived.Test.YtdiichfdffhdaaaTri
import Derived.Deep.RegionHeld3
namespace Go.Proofs.Ytdiichfdffhdaaa
open Go.RowKit

set_option maxHeartbeats 2000000 in
theorem rideOf_any (A : Option Addr) (c lo hi : Nat) (net : Net) (r : T3) (w : World) (hl : net.length ≤ 1048576) (h8 : ∀ k (hk : k < net.length), net[k].length ≤ 1048576) (hr : RdN w lo hi A net) (hh : hi ≤ w.heap.size) :
    Calls Try.prog 62 #[.slice A net.length c, .agg #[.int .i64 r.1, .int .i64 r.2.1, .int .i64 r.2.2]] w fun e w' => e = .returned (.bool (rideOk net r)) ∧ Below w.heap.size w w' := by
  by_cases h1 : r.1 < 0
  · have hres := Lib.hid (show rideOk net r = false from decide_eq_false (by omega))
    go_enter Try.func62, Try.ntmps62
    go_wp2
    all_goals (go_ret; exact ⟨ret_bool hres.out.symm, by (repeat (first | exact Below.refl _ _ | assumption | apply below_alloc | apply below_drewN | apply Below.drew | refine Below.setCell ?_ (by simp; try omega) _))⟩)
  have h1' : 0 ≤ r.1 := by omega
  by_cases h2 : (net.length : Int) ≤ r.1
  · have hres := Lib.hid (show rideOk net r = false from decide_eq_false (by omega))
    clear h1
    go_enter Try.func62, Try.ntmps62
    go_wp2
    all_goals (go_ret; exact ⟨ret_bool hres.out.symm, by (repeat (first | exact Below.refl _ _ | assumption | apply below_alloc | apply below_drewN | apply Below.drew | refine Below.setCell ?_ (by simp; try omega) _))⟩)
  have h2' : r.1 < (net.length : Int) := by omega
  have hc : r.1.toNat < net.length := by omega
  obtain ⟨b, off, B, cc, rfl, hlo, hhi, c0, hcc, hrk⟩ := hr r.1.toNat hc
  have hlk := h8 r.1.toNat hc
  have e : coachOf net r.1 = net[r.1.toNat] := by unfold coachOf; rw [List.getD_eq_getElem?_getD, List.getElem?_eq_getElem hc]; rfl
  have hOK := Lib.hid (show rideOk net r = decide (0 ≤ r.2.1 ∧ r.2.1 < r.2.2 ∧ r.2.2 < (net[r.1.toNat].length : Int)) by
    unfold rideOk; rw [e, decide_eq_decide]; omega)
  have hbw : b < w.heap.size := by omega
  clear h1 h2 e hrk
  generalize net[r.1.toNat].length = m at *
  by_cases h3 : 0 ≤ r.2.1
  · by_cases h4 : r.2.1 < r.2.2
    · have hres := Lib.hid (show rideOk net r = decide (r.2.2 < (m : Int)) by rw [hOK.out, decide_eq_decide]; omega)
      go_enter Try.func62, Try.ntmps62
      go_wp2
      try go_quiet (fail)
      try go_wp2
      go_ret
      exact ⟨ret_bool hres.out.symm, by (repeat (first | exact Below.refl _ _ | assumption | apply below_alloc | apply below_drewN | apply Below.drew | refine Below.setCell ?_ (by simp; try omega) _))⟩
    · have hres := Lib.hid (show rideOk net r = false by rw [hOK.out]; exact decide_eq_false (by omega))
      have h4' : decide (r.2.1 < r.2.2) = false := decide_eq_false h4
      go_enter Try.func62, Try.ntmps62
      go_wp2
      try go_quiet (fail)
      try go_wp2
      go_ret
      exact ⟨ret_bool hres.out.symm, by (repeat (first | exact Below.refl _ _ | assumption | apply below_alloc | apply below_drewN | apply Below.drew | refine Below.setCell ?_ (by simp; try omega) _))⟩
  · have hres := Lib.hid (show rideOk net r = false by rw [hOK.out]; exact decide_eq_false (by omega))
    have h3' : decide (0 ≤ r.2.1) = false := decide_eq_false h3
    have h3'' : (0 ≤ r.2.1) = False := eq_false h3
    clear h3
    go_enter Try.func62, Try.ntmps62
    go_wp2
    try go_quiet (fail)
    try go_wp2
    go_ret
    exact ⟨ret_bool hres.out.symm, by (repeat (first | exact Below.refl _ _ | assumption | apply below_alloc | apply below_drewN | apply Below.drew | refine Below.setCell ?_ (by simp; try omega) _))⟩

theorem net_len {net : Net} (h : netSize net ≤ 1048576) : net.length ≤ 1048576 ∧ ∀ k (hk : k < net.length), net[k].length ≤ 1048576 := by
  refine ⟨by unfold netSize at h; omega, fun k hk => ?_⟩
  have := netSum_get net k hk; unfold netSize at h; omega

set_option maxRecDepth 100000 in
set_option maxHeartbeats 4000000 in
theorem iJourneyValid (n : Int) (A : Option Addr) (c lo hi : Nat) (net : Net) (B : Option Addr) (d lo' hi' : Nat) (rides : List T3) (change : Int) (w : World) (hl : netSize net ≤ 1048576) (hr : RdN w lo hi A net) (hh : hi ≤ w.heap.size) (hlr : rides.length ≤ 1048576) (hrr : Rd w lo' hi' B (flat3 rides)) (hh' : hi' ≤ w.heap.size) :
    Calls Try.prog 22 #[.int .i64 n, .slice A net.length c, .slice B rides.length d, .int .i64 change] w fun e w' => e = .returned (.bool (journeyB n net rides change)) ∧ Below w.heap.size w w' := by
  obtain ⟨hln, h8⟩ := net_len hl
  have H8 := Lib.hid h8
  clear h8
  go_enter Try.func22, Try.ntmps22
  go_wp2_with fail
  refine (iNetValid n _ _ _ _ net _ hl hr hh).mono ?_
  rintro e w1 ⟨rfl, hb1⟩
  cases hv : netB n net
  · have hres := Lib.hid (show journeyB n net rides change = false by simp [journeyB, hv])
    clear hv
    go_wp2_with fail
    go_ret
    exact ⟨ret_bool hres.out.symm, hb1⟩
  have HV := Lib.hid hv
  clear hv
  go_wp2_with fail
  refine (delayValid_any _ _).mono ?_
  rintro e wq ⟨rfl, rfl⟩
  cases hd : inB change 0 300
  · have hres := Lib.hid (show journeyB n net rides change = false by simp [journeyB, hd])
    clear hd
    go_wp2_with fail
    go_ret
    exact ⟨ret_bool hres.out.symm, hb1⟩
  have hJ := Lib.hid (show journeyB n net rides change = ridesB net change none rides by simp [journeyB, hd, HV.out])
  obtain ⟨hc0, hc1⟩ := of_inB hd
  clear hd
  go_wp2_with fail
  go_loopw [25] (fun i wr => ∃ k : Nat, k ≤ rides.length ∧ i = .int .i64 k ∧ Hid (ridesB net change none rides = ridesB net change (prevOf rides k) (rides.drop k)) ∧ Hid (∀ j (hj : j < rides.length), j < k → rideOk net rides[j] = true) ∧ Below w.heap.size w wr) (fun i _ => rides.length - (intOf i).toNat)
  case atStart => exact ⟨0, Nat.zero_le _, rfl, by simp [Hid, prevOf], fun j _ h => absurd h (by omega), hb1⟩
  case round =>
    obtain ⟨k, hk, rfl, H, HO, hb⟩ := hrel
    have hbs := hb.size
    clear hb1
    by_cases hlt : k < rides.length
    · obtain ⟨bb, off, rfl, hlo, hhi, c0, c1, c2⟩ := (hrr.below hb hh').at3 k hlt
      obtain ⟨x, hx⟩ : ∃ x, x = rides[k] := ⟨_, rfl⟩
      rw [← hx] at c0 c1 c2
      have HX := Lib.hid hx
      clear hx
      have hbA := below_alloc hb (.cells #[.int .i64 x.1, .int .i64 x.2.1, .int .i64 x.2.2] 33)
      go_wp2_with fail
      refine (rideOf_any _ _ _ _ net x _ hln H8.out (hr.below hbA hh) (by simp; omega)).mono ?_
      rintro e w3 ⟨rfl, hb3⟩
      have hb13 := hbA.trans (hb3.mono hbA.size)
      cases hok : rideOk net x
      · have hres := Lib.hid (show journeyB n net rides change = false by rw [hJ.out]; exact rides_bad H.out hlt (by rw [← HX.out]; exact hok))
        clear hok
        go_wp2_with fail
        go_ret
        exact ⟨ret_bool hres.out.symm, hb13⟩
      have HOK := Lib.hid hok
      clear hok
      cases k with
      | zero =>
        have hst := Lib.hid (rides_first (net := net) (change := change) hlt (by rw [← HX.out]; exact HOK.out))
        go_wp2_with fail
        go_roundw
        case rel => exact ⟨1, by omega, by go_num, hst, (by intro j hj h; have e : j = 0 := (by omega); subst e; rw [← HX.out]; exact HOK.out), hb13⟩
        case measure => simp [intOf]; omega
      | succ k =>
        have t0 : (((k + 1 : Nat) : Int) == 0) = false := by rw [beq_eq_false_iff_ne]; omega
        have hlk : k < rides.length := by omega
        obtain ⟨b2, off2, e2, -, -, a0, a1, a2⟩ := (hrr.below hb13 hh').at3 k hlk
        injection e2 with e2; injection e2 with e21 e22; subst e21 e22
        obtain ⟨y, hy⟩ : ∃ y, y = rides[k] := ⟨_, rfl⟩
        rw [← hy] at a0 a1 a2
        have hyok : rideOk net y = true := by rw [hy]; exact HO.out k hlk (by omega)
        have HY := Lib.hid hy
        clear hy
        have r0 := (hb3.cell (p := ⟨wr.heap.size, 0, none⟩) (by simp)).trans (by simp [go_sem] : (wr.alloc (.cells #[.int .i64 x.1, .int .i64 x.2.1, .int .i64 x.2.2] 33)).cell? ⟨wr.heap.size, 0, none⟩ = some (.int .i64 x.1))
        have r1 := (hb3.cell (p := ⟨wr.heap.size, 1, none⟩) (by simp)).trans (by simp [go_sem] : (wr.alloc (.cells #[.int .i64 x.1, .int .i64 x.2.1, .int .i64 x.2.2] 33)).cell? ⟨wr.heap.size, 1, none⟩ = some (.int .i64 x.2.1))
        have r2 := (hb3.cell (p := ⟨wr.heap.size, 2, none⟩) (by simp)).trans (by simp [go_sem] : (wr.alloc (.cells #[.int .i64 x.1, .int .i64 x.2.1, .int .i64 x.2.2] 33)).cell? ⟨wr.heap.size, 2, none⟩ = some (.int .i64 x.2.2))
        have hz3 : wr.heap.size < w3.heap.size := by have := hb3.size; simp at this; omega
        obtain ⟨xc, xf, xt, x1, x2, x3, x4, x5, x8, sx1, -⟩ := ride_get HV.out HOK.out
        obtain ⟨yc, yf, yt, y1, y2, y3, y4, y5, y8, -, sy2⟩ := ride_get HV.out hyok
        obtain ⟨bn, on, Bx, ccx, rfl, hln1, hln2, hx0, hxc, hxr⟩ := (hr.below hb13 hh) x.1.toNat xc
        obtain ⟨bn', on', By, ccy, e3, -, -, hy0, hyc, hyr⟩ := (hr.below hb13 hh) y.1.toNat yc
        injection e3 with e3; injection e3 with e31 e32; subst e31 e32
        obtain ⟨bx, ox, rfl, -, hbx, g0, g1, g2⟩ := hxr.at3 x.2.1.toNat xf
        obtain ⟨by', oy, rfl, -, hby, f0, f1, f2⟩ := hyr.at3 y.2.2.toNat yt
        have gsx := stopsB_get ((netB_and HV.out).2.2 _ xc) _ xf
        have gsy := stopsB_get ((netB_and HV.out).2.2 _ yc) _ yt
        have HLK := Lib.hid (show linkOk net change y x = decide (net[y.1.toNat][y.2.2.toNat].1 = net[x.1.toNat][x.2.1.toNat].1 ∧ net[y.1.toNat][y.2.2.toNat].2.1 + change ≤ net[x.1.toNat][x.2.1.toNat].2.2) by rw [linkOk, sx1, sy2])
        clear sx1 sy2 hxr hyr
        generalize net[x.1.toNat][x.2.1.toNat] = sx at *
        generalize net[y.1.toNat][y.2.2.toNat] = sy at *
        generalize net[x.1.toNat].length = mx at *
        generalize net[y.1.toNat].length = my at *
        obtain ⟨gx1, gx2, gx3, gx4, gx5⟩ := gsx
        obtain ⟨gy1, gy2, gy3, gy4, gy5⟩ := gsy
        have HXY := Lib.hid (show (sy.1 ≠ sx.1 ∨ sx.2.2 < sy.2.1 + change) → journeyB n net rides change = false from fun h => hJ.out.trans (rides_cut H.out hlt HY.out (by rw [← HX.out, HLK.out]; exact decide_eq_false (by omega))))
        have HGO := Lib.hid (show sy.1 = sx.1 → sy.2.1 + change ≤ sx.2.2 → _ from fun h1 h2 => rides_go H.out hlt HY.out (by rw [← HX.out]; exact HOK.out) (by rw [← HX.out, HLK.out]; exact decide_eq_true ⟨h1, h2⟩))
        have HO2 := Lib.hid (show ∀ (j : Nat) (hj : j < rides.length), j < k + 1 + 1 → rideOk net rides[j] = true by
          intro j hj h
          by_cases e : j = k + 1
          · subst e; rw [← HX.out]; exact HOK.out
          · exact HO.out j hj (by omega))
        have z1 : (0:Int) ≤ y.2.2 := by omega
        have z2 : y.2.2 < (my : Int) := by omega
        have z3 : (0:Int) ≤ x.2.1 := by omega
        have z4 : x.2.1 < (mx : Int) := by omega
        have n1 : bn < w3.heap.size := by omega
        have n2 : bx < w3.heap.size := by omega
        have n3 : by' < w3.heap.size := by omega
        go_wp2_with fail
        go_region_held3 (fun w' => w'.cell? ⟨w3.heap.size, 0, none⟩ = some (.int .i64 y.1) ∧ w'.cell? ⟨w3.heap.size, 2, none⟩ = some (.int .i64 y.2.2) ∧ w'.cell? ⟨wr.heap.size, 0, none⟩ = some (.int .i64 x.1) ∧ w'.cell? ⟨wr.heap.size, 1, none⟩ = some (.int .i64 x.2.1) ∧ w'.cell? ⟨bn, on + x.1.toNat, none⟩ = some (.slice (some ⟨bx, ox, none⟩) mx ccx) ∧ w'.cell? ⟨bn, on + y.1.toNat, none⟩ = some (.slice (some ⟨by', oy, none⟩) my ccy) ∧ w'.cell? ⟨bx, ox + x.2.1.toNat * 3, none⟩ = some (.int .i64 sx.1) ∧ w'.cell? ⟨bx, ox + x.2.1.toNat * 3 + 1, none⟩ = some (.int .i64 sx.2.1) ∧ w'.cell? ⟨bx, ox + x.2.1.toNat * 3 + 2, none⟩ = some (.int .i64 sx.2.2) ∧ w'.cell? ⟨by', oy + y.2.2.toNat * 3, none⟩ = some (.int .i64 sy.1) ∧ w'.cell? ⟨by', oy + y.2.2.toNat * 3 + 1, none⟩ = some (.int .i64 sy.2.1) ∧ w'.cell? ⟨by', oy + y.2.2.toNat * 3 + 2, none⟩ = some (.int .i64 sy.2.2)) (simp (maxDischargeDepth := 8) [*, World.cell?_alloc_some, World.cell?_setCell_far]) (fail)
        all_goals go_wp2_with fail
        case' roundEnd =>
          go_roundw
          case rel => exact ⟨k + 1 + 1, by omega, by go_num, HGO.out (by omega) (by omega), HO2, by (repeat (first | exact Below.refl _ _ | assumption | apply below_alloc | apply below_drewN | apply Below.drew | refine Below.setCell ?_ (by simp; try omega) _))⟩
          case measure => simp [intOf]; omega
        case' roundEnd =>
          go_roundw
          case rel => exact ⟨k + 1 + 1, by omega, by go_num, HGO.out (by omega) (by omega), HO2, by (repeat (first | exact Below.refl _ _ | assumption | apply below_alloc | apply below_drewN | apply Below.drew | refine Below.setCell ?_ (by simp; try omega) _))⟩
          case measure => simp [intOf]; omega
        all_goals (go_ret; exact ⟨ret_bool (HXY.out (by omega)).symm, by (repeat (first | exact Below.refl _ _ | assumption | apply below_alloc | apply below_drewN | apply Below.drew | refine Below.setCell ?_ (by simp; try omega) _))⟩)
    · have hres := Lib.hid (show journeyB n net rides change = true by rw [hJ.out]; exact rides_end H.out hlt)
      go_wp2_with fail
      go_ret
      exact ⟨ret_bool hres.out.symm, hb⟩

end Go.Proofs.Ytdiichfdffhdaaa
