/-
  Contracts of the reference's JourneyValid, and of JourneyEnd of both sides.
-/
import Derived.Test.YtdiichfdffhdaaaJourney
import Derived.Deep.RegionHeld3
namespace Go.Proofs.Ytdiichfdffhdaaa
open Go.RowKit

set_option maxRecDepth 100000 in
set_option maxHeartbeats 8000000 in
theorem sJourneyValid (n : Int) (A : Option Addr) (c lo hi : Nat) (net : Net) (B : Option Addr) (d lo' hi' : Nat) (rides : List T3) (change : Int) (w : World) (hl : netSize net ≤ 1048576) (hr : RdN w lo hi A net) (hh : hi ≤ w.heap.size) (hlr : rides.length ≤ 1048576) (hrr : Rd w lo' hi' B (flat3 rides)) (hh' : hi' ≤ w.heap.size) :
    Calls Try.prog 25 #[.int .i64 n, .slice A net.length c, .slice B rides.length d, .int .i64 change] w fun e w' => e = .returned (.bool (journeyB n net rides change)) ∧ Below w.heap.size w w' := by
  obtain ⟨hln, h8⟩ := net_len hl
  have H8 := Lib.hid h8
  clear h8
  go_enter Try.func25, Try.ntmps25
  go_wp2_with fail
  refine (sNetValid n _ _ _ _ net _ hl hr hh).mono ?_
  rintro e w1 ⟨rfl, hb1⟩
  cases hv : netB n net
  · have hres := Lib.hid (show journeyB n net rides change = false by simp [journeyB, hv])
    clear hv
    go_wp2_with fail
    go_ret
    exact ⟨ret_bool hres.out.symm, hb1⟩
  have HV := Lib.hid hv
  clear hv
  go_wp2_with fail
  refine (l6In_any change 0 300 _).mono ?_
  rintro e wq ⟨rfl, rfl⟩
  cases hd : inB change 0 300
  · have hres := Lib.hid (show journeyB n net rides change = false by simp [journeyB, hd])
    clear hd
    go_wp2_with fail
    go_ret
    exact ⟨ret_bool hres.out.symm, hb1⟩
  have hJ := Lib.hid (show journeyB n net rides change = ridesB net change none rides by simp [journeyB, hd, HV.out])
  obtain ⟨hc0, hc1⟩ := of_inB hd
  clear hd
  go_wp2_with fail
  go_loopw [9] (fun i wr => ∃ k : Nat, k ≤ rides.length ∧ i = .int .i64 k ∧ Hid (ridesB net change none rides = ridesB net change (prevOf rides k) (rides.drop k)) ∧ Hid (∀ j (hj : j < rides.length), j < k → rideOk net rides[j] = true) ∧ Below w.heap.size w wr) (fun i _ => rides.length - (intOf i).toNat)
  case atStart => exact ⟨0, Nat.zero_le _, rfl, by simp [Hid, prevOf], fun j _ h => absurd h (by omega), hb1⟩
  case round =>
    obtain ⟨k, hk, rfl, H, HO, hb⟩ := hrel
    have hbs := hb.size
    clear hb1
    by_cases hlt : k < rides.length
    · obtain ⟨bb, off, rfl, hlo, hhi, c0, c1, c2⟩ := (hrr.below hb hh').at3 k hlt
      obtain ⟨x, hx⟩ : ∃ x, x = rides[k] := ⟨_, rfl⟩
      rw [← hx] at c0 c1 c2
      have HX := Lib.hid hx
      clear hx
      have hbA := below_alloc hb (.cells #[.int .i64 x.1, .int .i64 x.2.1, .int .i64 x.2.2] 33)
      have wl1 : IntKind.i64.wrap ((net.length : Int) - 1) = (net.length : Int) - 1 := IntWalk.i64_in _ (by omega)
      cases hok : rideOk net x
      · have hres := Lib.hid (show journeyB n net rides change = false by rw [hJ.out]; exact rides_bad H.out hlt (by rw [← HX.out]; exact hok))
        cases hi1 : inB x.1 0 ((net.length : Int) - 1)
        · clear hok
          go_wp2_with fail
          go_quiet ((go_at_call 65; exact Calls.quiet_of_same ((l6In_any _ _ _ _).mono fun _ _ ⟨h1, h2⟩ => ⟨h1, h2.symm⟩)))
          clear wl1 hi1
          go_wp2_with fail
          go_ret
          exact ⟨ret_bool hres.out.symm, below_drewN hbA _⟩
        · have hq := of_inB hi1
          have hc : x.1.toNat < net.length := by omega
          obtain ⟨q1, q2⟩ := hq
          have q2' : x.1 < (net.length : Int) := by omega
          obtain ⟨bn, on, Bx, ccx, rfl, hln1, hln2, hx0, hxc, hxr⟩ := (hr.below hb hh) x.1.toNat hc
          have hlk := H8.out x.1.toNat hc
          have e : coachOf net x.1 = net[x.1.toNat] := by unfold coachOf; rw [List.getD_eq_getElem?_getD, List.getElem?_eq_getElem hc]; rfl
          have HOK := Lib.hid (show ¬ (0 ≤ x.2.1 ∧ x.2.1 < x.2.2 ∧ x.2.2 < (net[x.1.toNat].length : Int)) by
            have := of_decide_eq_false hok
            rw [e] at this
            omega)
          clear hok e hxr hxc
          generalize net[x.1.toNat].length = mx at *
          have wl2 : IntKind.i64.wrap ((mx : Int) - 1) = (mx : Int) - 1 := IntWalk.i64_in _ (by omega)
          have hbnw : bn < wr.heap.size := by omega
          cases hi2 : inB x.2.1 0 ((mx : Int) - 1)
          · go_wp2_with fail
            go_quiet ((go_at_call 65; exact Calls.quiet_of_same ((l6In_any _ _ _ _).mono fun _ _ ⟨h1, h2⟩ => ⟨h1, h2.symm⟩)))
            clear wl1 hi1 wl2 hi2
            go_wp2_with fail
            go_ret
            exact ⟨ret_bool hres.out.symm, below_drewN hbA _⟩
          · have hq2 := of_inB hi2
            have wl3 : IntKind.i64.wrap (x.2.1 + 1) = x.2.1 + 1 := IntWalk.i64_in _ (by omega)
            have hi3 : inB x.2.2 (x.2.1 + 1) ((mx : Int) - 1) = false := inB_false (by have := HOK.out; omega)
            go_wp2_with fail
            go_quiet ((go_at_call 65; exact Calls.quiet_of_same ((l6In_any _ _ _ _).mono fun _ _ ⟨h1, h2⟩ => ⟨h1, h2.symm⟩)))
            clear wl1 hi1 wl2 hi2 wl3 hi3
            go_wp2_with fail
            go_ret
            exact ⟨ret_bool hres.out.symm, below_drewN hbA _⟩
      · have HOK := Lib.hid hok
        obtain ⟨xc, xf, xt, x1, x2, x3, x4, x5, x8, sx1, -⟩ := ride_get HV.out hok
        obtain ⟨bn, on, Bx, ccx, rfl, hln1, hln2, hx0, hxc, hxr⟩ := (hr.below hb hh) x.1.toNat xc
        obtain ⟨bx, ox, rfl, -, hbx, g0, g1, g2⟩ := hxr.at3 x.2.1.toNat xf
        have gsx := stopsB_get ((netB_and HV.out).2.2 _ xc) _ xf
        have HXS := Lib.hid (show x.1.toNat < net.length ∧ True from ⟨xc, trivial⟩)
        obtain ⟨mx, hmx⟩ : ∃ mx, mx = net[x.1.toNat].length := ⟨_, rfl⟩
        obtain ⟨sx, hsx⟩ : ∃ sx, sx = net[x.1.toNat][x.2.1.toNat] := ⟨_, rfl⟩
        rw [← hmx] at hx0 x5 x8 hxc
        rw [← hsx] at g0 g1 g2 gsx sx1
        have HSX := Lib.hid sx1
        clear hok hxr sx1 hmx hsx xt
        obtain ⟨gx1, gx2, gx3, gx4, gx5⟩ := gsx
        have wl2 : IntKind.i64.wrap ((mx : Int) - 1) = (mx : Int) - 1 := IntWalk.i64_in _ (by omega)
        have wl3 : IntKind.i64.wrap (x.2.1 + 1) = x.2.1 + 1 := IntWalk.i64_in _ (by omega)
        have hi1 : inB x.1 0 ((net.length : Int) - 1) = true := inB_true (by omega)
        have hi2 : inB x.2.1 0 ((mx : Int) - 1) = true := inB_true (by omega)
        have hi3 : inB x.2.2 (x.2.1 + 1) ((mx : Int) - 1) = true := inB_true (by omega)
        have z3 : (0:Int) ≤ x.2.1 := by omega
        have z4 : x.2.1 < (mx : Int) := by omega
        have hbnw : bn < wr.heap.size := by omega
        have hbxw : bx < wr.heap.size := by omega
        go_wp2_with fail
        go_quiet ((go_at_call 65; exact Calls.quiet_of_same ((l6In_any _ _ _ _).mono fun _ _ ⟨h1, h2⟩ => ⟨h1, h2.symm⟩)))
        clear wl1 wl2 wl3 hi1 hi2 hi3
        have hbA2 := below_drewN hbA nq
        cases k with
        | zero =>
          have hst := Lib.hid (rides_first (net := net) (change := change) hlt (by rw [← HX.out]; exact HOK.out))
          go_wp2_with fail
          go_roundw
          case rel => exact ⟨1, by omega, by go_num, hst, (by intro j hj h; have e : j = 0 := (by omega); subst e; rw [← HX.out]; exact HOK.out), hbA2⟩
          case measure => simp [intOf]; omega
        | succ k =>
          have t0 : (0 : Int) < ((k + 1 : Nat) : Int) := by omega
          have hlk : k < rides.length := by omega
          obtain ⟨b2, off2, e2, -, hb2w, a0, a1, a2⟩ := (hrr.below hb hh').at3 k hlk
          injection e2 with e2; injection e2 with e21 e22; subst e21 e22
          obtain ⟨y, hy⟩ : ∃ y, y = rides[k] := ⟨_, rfl⟩
          rw [← hy] at a0 a1 a2
          have hyok : rideOk net y = true := by rw [hy]; exact HO.out k hlk (by omega)
          have HY := Lib.hid hy
          clear hy
          obtain ⟨yc, yf, yt, y1, y2, y3, y4, y5, y8, -, sy2⟩ := ride_get HV.out hyok
          obtain ⟨bn', on', By, ccy, e3, -, -, hy0, hyc, hyr⟩ := (hr.below hb hh) y.1.toNat yc
          injection e3 with e3; injection e3 with e31 e32; subst e31 e32
          obtain ⟨by', oy, rfl, -, hby, f0, f1, f2⟩ := hyr.at3 y.2.2.toNat yt
          have gsy := stopsB_get ((netB_and HV.out).2.2 _ yc) _ yt
          have HLK := Lib.hid (show linkOk net change y x = decide (net[y.1.toNat][y.2.2.toNat].1 = sx.1 ∧ net[y.1.toNat][y.2.2.toNat].2.1 + change ≤ sx.2.2) by rw [linkOk, HSX.out, sy2])
          obtain ⟨my, hmy⟩ : ∃ my, my = net[y.1.toNat].length := ⟨_, rfl⟩
          obtain ⟨sy, hsy⟩ : ∃ sy, sy = net[y.1.toNat][y.2.2.toNat] := ⟨_, rfl⟩
          rw [← hmy] at hy0 y5 y8 hyc
          rw [← hsy] at f0 f1 f2 gsy HLK sy2
          clear sy2 hyr hmy hsy hyok
          obtain ⟨gy1, gy2, gy3, gy4, gy5⟩ := gsy
          have HXY := Lib.hid (show (sy.1 ≠ sx.1 ∨ sx.2.2 < sy.2.1 + change) → journeyB n net rides change = false from fun h => hJ.out.trans (rides_cut H.out hlt HY.out (by rw [← HX.out, HLK.out]; exact decide_eq_false (by omega))))
          have HGO := Lib.hid (show sy.1 = sx.1 → sy.2.1 + change ≤ sx.2.2 → _ from fun h1 h2 => rides_go H.out hlt HY.out (by rw [← HX.out]; exact HOK.out) (by rw [← HX.out, HLK.out]; exact decide_eq_true ⟨h1, h2⟩))
          have HO2 := Lib.hid (show ∀ (j : Nat) (hj : j < rides.length), j < k + 1 + 1 → rideOk net rides[j] = true by
            intro j hj h
            by_cases e : j = k + 1
            · subst e; rw [← HX.out]; exact HOK.out
            · exact HO.out j hj (by omega))
          have z1 : (0:Int) ≤ y.2.2 := by omega
          have z2 : y.2.2 < (my : Int) := by omega
          have wk : IntKind.i64.wrap ((((k + 1 : Nat) : Int)) - 1) = (k : Int) := by rw [show (((k + 1 : Nat) : Int)) - 1 = (k : Int) by omega]; exact IntWalk.i64_in _ (by omega)
          have wk2 : IntKind.i64.wrap ((k : Int) + 1 - 1) = (k : Int) := by rw [show ((k : Int)) + 1 - 1 = (k : Int) by omega]; exact IntWalk.i64_in _ (by omega)
          have wk3 : IntKind.i64.wrap (k : Int) = (k : Int) := IntWalk.i64_in _ (by omega)
          have hk0 : (0 : Int) ≤ (k : Int) := by omega
          have hkr : (k : Int) < (rides.length : Int) := by omega
          have hb2w' : bb < wr.heap.size := by omega
          have hbyw : by' < wr.heap.size := by omega
          have q0 : ((wr.alloc (.cells #[.int .i64 x.1, .int .i64 x.2.1, .int .i64 x.2.2] 33)).drewN nq).cell? ⟨wr.heap.size, 0, none⟩ = some (.int .i64 x.1) := by show (wr.alloc _).cell? _ = _; simp [go_sem]
          have q1 : ((wr.alloc (.cells #[.int .i64 x.1, .int .i64 x.2.1, .int .i64 x.2.2] 33)).drewN nq).cell? ⟨wr.heap.size, 1, none⟩ = some (.int .i64 x.2.1) := by show (wr.alloc _).cell? _ = _; simp [go_sem]
          have q2 : ((wr.alloc (.cells #[.int .i64 x.1, .int .i64 x.2.1, .int .i64 x.2.2] 33)).drewN nq).cell? ⟨wr.heap.size, 2, none⟩ = some (.int .i64 x.2.2) := by show (wr.alloc _).cell? _ = _; simp [go_sem]
          have qz : wr.heap.size < ((wr.alloc (.cells #[.int .i64 x.1, .int .i64 x.2.1, .int .i64 x.2.2] 33)).drewN nq).heap.size := by show _ < (wr.alloc _).heap.size; simp
          have qw : wr.heap.size ≤ ((wr.alloc (.cells #[.int .i64 x.1, .int .i64 x.2.1, .int .i64 x.2.2] 33)).drewN nq).heap.size := by omega
          have qc : ∀ p : Addr, p.block < wr.heap.size → ((wr.alloc (.cells #[.int .i64 x.1, .int .i64 x.2.1, .int .i64 x.2.2] 33)).drewN nq).cell? p = wr.cell? p := fun p hp => by show (wr.alloc _).cell? _ = _; exact World.cell?_alloc_lt _ _ _ hp
          rw [← qc _ (by show bb < _; omega)] at a0 a1 a2 c0 c1 c2
          rw [← qc _ (by show bn < _; omega)] at hx0 hy0
          rw [← qc _ (by show bx < _; omega)] at g0 g1 g2
          rw [← qc _ (by show by' < _; omega)] at f0 f1 f2
          clear qc hbA hb
          generalize (wr.alloc (.cells #[.int .i64 x.1, .int .i64 x.2.1, .int .i64 x.2.2] 33)).drewN nq = w3 at *
          have n1 : bn < w3.heap.size := by omega
          have n2 : bx < w3.heap.size := by omega
          have n3 : by' < w3.heap.size := by omega
          have n4 : bb < w3.heap.size := by omega
          go_wp2_with fail
          go_region_held3 (fun w' => w'.cell? ⟨bb, off + k * 3, none⟩ = some (.int .i64 y.1) ∧ w'.cell? ⟨bb, off + k * 3 + 1, none⟩ = some (.int .i64 y.2.1) ∧ w'.cell? ⟨bb, off + k * 3 + 2, none⟩ = some (.int .i64 y.2.2) ∧ w'.cell? ⟨wr.heap.size, 0, none⟩ = some (.int .i64 x.1) ∧ w'.cell? ⟨wr.heap.size, 1, none⟩ = some (.int .i64 x.2.1) ∧ w'.cell? ⟨bn, on + x.1.toNat, none⟩ = some (.slice (some ⟨bx, ox, none⟩) mx ccx) ∧ w'.cell? ⟨bn, on + y.1.toNat, none⟩ = some (.slice (some ⟨by', oy, none⟩) my ccy) ∧ w'.cell? ⟨bx, ox + x.2.1.toNat * 3, none⟩ = some (.int .i64 sx.1) ∧ w'.cell? ⟨bx, ox + x.2.1.toNat * 3 + 1, none⟩ = some (.int .i64 sx.2.1) ∧ w'.cell? ⟨bx, ox + x.2.1.toNat * 3 + 2, none⟩ = some (.int .i64 sx.2.2) ∧ w'.cell? ⟨by', oy + y.2.2.toNat * 3, none⟩ = some (.int .i64 sy.1) ∧ w'.cell? ⟨by', oy + y.2.2.toNat * 3 + 1, none⟩ = some (.int .i64 sy.2.1) ∧ w'.cell? ⟨by', oy + y.2.2.toNat * 3 + 2, none⟩ = some (.int .i64 sy.2.2)) (simp (maxDischargeDepth := 8) [*, World.cell?_alloc_some, World.cell?_setCell_far]) (fail)
          go_wp2_with fail
          go_region_held3 (fun w' => w'.cell? ⟨w3.heap.size, 0, none⟩ = some (.int .i64 sy.1) ∧ w'.cell? ⟨w3.heap.size, 1, none⟩ = some (.int .i64 sy.2.1) ∧ w'.cell? ⟨wr.heap.size, 0, none⟩ = some (.int .i64 x.1) ∧ w'.cell? ⟨wr.heap.size, 1, none⟩ = some (.int .i64 x.2.1) ∧ w'.cell? ⟨bn, on + x.1.toNat, none⟩ = some (.slice (some ⟨bx, ox, none⟩) mx ccx) ∧ w'.cell? ⟨bx, ox + x.2.1.toNat * 3, none⟩ = some (.int .i64 sx.1) ∧ w'.cell? ⟨bx, ox + x.2.1.toNat * 3 + 1, none⟩ = some (.int .i64 sx.2.1) ∧ w'.cell? ⟨bx, ox + x.2.1.toNat * 3 + 2, none⟩ = some (.int .i64 sx.2.2)) (simp (maxDischargeDepth := 8) [*, World.cell?_alloc_some, World.cell?_setCell_far]) (fail)
          all_goals go_wp2_with fail
          case' roundEnd =>
            go_roundw
            case rel => exact ⟨k + 1 + 1, by omega, by go_num, HGO.out (by omega) (by omega), HO2, by (repeat (first | exact Below.refl _ _ | assumption | apply below_alloc | apply below_drewN | apply Below.drew | refine Below.setCell ?_ (by simp; try omega) _))⟩
            case measure => simp [intOf]; omega
          all_goals (go_ret; exact ⟨ret_bool (HXY.out (by omega)).symm, by (repeat (first | exact Below.refl _ _ | assumption | apply below_alloc | apply below_drewN | apply Below.drew | refine Below.setCell ?_ (by simp; try omega) _))⟩)
    · have hres := Lib.hid (show journeyB n net rides change = true by rw [hJ.out]; exact rides_end H.out hlt)
      go_wp2_with fail
      go_ret
      exact ⟨ret_bool hres.out.symm, hb⟩

end Go.Proofs.Ytdiichfdffhdaaa
