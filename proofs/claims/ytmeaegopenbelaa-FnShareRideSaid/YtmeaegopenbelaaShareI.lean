/-
  The program's ShareMake, ShareDue, ShareRide.
-/
import Derived.Test.YtmeaegopenbelaaShareOut
import Derived.Test.YtmeaegopenbelaaOwner
import Derived.Test.YtmeaegopenbelaaShareR
namespace Go.Proofs.Ytmeaegopenbelaa
open Go.RowKit

/-- What the dues are. -/
def dueV (ps : List T2) (a : Int) : List Int := if makeOk ps a then (cntL (ownersL ps)).map (fun x => x * a) else []
set_option maxHeartbeats 2000000 in
theorem iShareMake_any (A : Option Addr) (c lo hi : Nat) (ps : List T2) (a : Int) (w : World) (hl : ps.length ≤ 1048576) (hr : Rd w lo hi A (flat2 ps)) (hh : hi ≤ w.heap.size) :
    Calls Try.prog 11 #[.slice A ps.length c, .int .i64 a] w (RetLB 3 (makeV ps a) (makeOk ps a) w) := by
  cases hok : partsB ps
  · have HV := Lib.hid hok
    have hno := Lib.hid (show makeOk ps a = false by unfold makeOk; rw [hok]; rfl)
    have hnl := Lib.hid (show makeV ps a = [] by unfold makeV; rw [hno.out]; rfl)
    clear hok
    go_enter Try.func11, Try.ntmps11
    go_wp2_with fail
    refine (iPartsMiles_any _ _ _ _ ps _ hl hr hh).mono ?_
    rintro e w1 ⟨B, d, rfl, ho, hb⟩
    rw [HV.out]
    go_wp2_with fail
    go_ret2
    exact retLB_no hno.out hnl.out hb rfl
  · have HV := Lib.hid hok
    cases hia : inB a 0 1000000
    · have HI := Lib.hid hia
      have hno := Lib.hid (show makeOk ps a = false by unfold makeOk; rw [hok, hia]; rfl)
      have hnl := Lib.hid (show makeV ps a = [] by unfold makeV; rw [hno.out]; rfl)
      clear hok hia
      go_enter Try.func11, Try.ntmps11
      go_wp2_with fail
      refine (iPartsMiles_any _ _ _ _ ps _ hl hr hh).mono ?_
      rintro e w1 ⟨B, d, rfl, ho, hb⟩
      rw [HV.out]
      go_wp2_with fail
      refine (iAmount_any _ _).mono ?_
      rintro e w2 ⟨rfl, rfl⟩
      rw [HI.out]
      go_wp2_with fail
      go_ret2
      exact retLB_no hno.out hnl.out hb rfl
    · have HI := Lib.hid hia
      have hno := Lib.hid (show makeOk ps a = true by unfold makeOk; rw [hok, hia]; rfl)
      have hnl := Lib.hid (show makeV ps a = shareL (cntL (ownersL ps)) a by unfold makeV; rw [hno.out]; rfl)
      have hmv := Lib.hid (show milesV ps = cntL (ownersL ps) by unfold milesV; rw [hok]; rfl)
      obtain ⟨_, _, p3, p4, p5⟩ := parts_pos hok
      have HC := Lib.hid (cnt_share p5 p4 p3)
      obtain ⟨M, hM⟩ : ∃ M, M = cntL (ownersL ps) := ⟨_, rfl⟩
      rw [← hM] at HC hnl hmv
      have ha := Lib.hid (of_inB hia)
      clear hok hia hM p3 p4 p5
      go_enter Try.func11, Try.ntmps11
      go_wp2_with fail
      refine (iPartsMiles_any _ _ _ _ ps _ hl hr hh).mono ?_
      rintro e w1 ⟨B, d, rfl, ho, hb⟩
      rw [HV.out, hmv.out, HC.out.1]
      rw [hmv.out] at ho
      have hrd := Rd.of_own ho
      clear ho
      go_wp2_with fail
      refine (iAmount_any _ _).mono ?_
      rintro e w2 ⟨rfl, rfl⟩
      rw [HI.out]
      go_wp2_with fail
      refine (shareOut_any _ _ _ _ M a _ HC.out.1 HC.out.2.1 HC.out.2.2 ha.out hrd (Nat.le_refl _)).mono ?_
      rintro e w3 ⟨A3, c3, rfl, ho3, hb3⟩
      go_wp2_with fail
      go_ret2
      exact retLB_mk hnl.out hno.out hb ho3 hb3
set_option maxHeartbeats 2000000 in
theorem iShareRide_any (A : Option Addr) (c lo hi : Nat) (ps : List T2) (f t a : Int) (w : World) (hl : ps.length ≤ 1048576) (hr : Rd w lo hi A (flat2 ps)) (hh : hi ≤ w.heap.size) :
    Calls Try.prog 26 #[.slice A ps.length c, .int .i64 f, .int .i64 t, .int .i64 a] w (RetLB 3 (rideShV ps f t a) (rideShOk ps f t a) w) := by
  cases hok : stretchB ps f t
  · have HV := Lib.hid hok
    have hno := Lib.hid (show rideShOk ps f t a = false by unfold rideShOk; rw [hok]; rfl)
    have hnl := Lib.hid (show rideShV ps f t a = [] by unfold rideShV; rw [hno.out]; rfl)
    clear hok
    go_enter Try.func26, Try.ntmps26
    go_wp2_with fail
    refine (iRideValid_any _ _ _ _ ps f t _ hl hr hh).mono ?_
    rintro e w1 ⟨rfl, hb⟩
    rw [HV.out]
    go_wp2_with fail
    go_ret2
    exact retLB_no hno.out hnl.out hb rfl
  · have HV := Lib.hid hok
    cases hia : inB a 0 1000000
    · have HI := Lib.hid hia
      have hno := Lib.hid (show rideShOk ps f t a = false by unfold rideShOk; rw [hok, hia]; rfl)
      have hnl := Lib.hid (show rideShV ps f t a = [] by unfold rideShV; rw [hno.out]; rfl)
      clear hok hia
      go_enter Try.func26, Try.ntmps26
      go_wp2_with fail
      refine (iRideValid_any _ _ _ _ ps f t _ hl hr hh).mono ?_
      rintro e w1 ⟨rfl, hb⟩
      rw [HV.out]
      go_wp2_with fail
      refine (iAmount_any _ _).mono ?_
      rintro e w2 ⟨rfl, rfl⟩
      rw [HI.out]
      go_wp2_with fail
      go_ret2
      exact retLB_no hno.out hnl.out hb rfl
    · have HI := Lib.hid hia
      have hno := Lib.hid (show rideShOk ps f t a = true by unfold rideShOk; rw [hok, hia]; rfl)
      have hnl := Lib.hid (show rideShV ps f t a = shareL (cntL (stretchL ps f t)) a by unfold rideShV; rw [hno.out]; rfl)
      obtain ⟨hpv, hf0, hft, htl, hsl, hsin, hsp, _⟩ := stretch_and hok
      obtain ⟨_, _, p3, p4, p5⟩ := parts_pos hpv
      have HC := Lib.hid (cnt_share hsin (by omega) (by omega))
      have HPV := Lib.hid hpv
      obtain ⟨M, hM⟩ : ∃ M, M = cntL (stretchL ps f t) := ⟨_, rfl⟩
      rw [← hM] at HC hnl
      have HM := Lib.hid hM
      have ha := Lib.hid (of_inB hia)
      clear hok hia hM p3 p4 p5 hpv hsl hsin hsp
      go_enter Try.func26, Try.ntmps26
      go_wp2_with fail
      refine (iRideValid_any _ _ _ _ ps f t _ hl hr hh).mono ?_
      rintro e w1 ⟨rfl, hb⟩
      rw [HV.out]
      have hr1 := hr.below hb hh
      have hh1 := Nat.le_trans hh hb.size
      clear hr
      go_wp2_with fail
      refine (iAmount_any _ _).mono ?_
      rintro e w2 ⟨rfl, rfl⟩
      rw [HI.out]
      go_wp2_with fail
      refine (worked_any _ _ _ _ ps f t _ HPV.out hf0 hr1 hh1).mono ?_
      rintro e w3 ⟨B, d, rfl, ho, hb3⟩
      rw [← HM.out] at ho ⊢
      rw [HC.out.1]
      have hrd := Rd.of_own ho
      have hb13 := hb.trans (hb3.mono hb.size)
      clear ho
      go_wp2_with fail
      refine (shareOut_any _ _ _ _ M a _ HC.out.1 HC.out.2.1 HC.out.2.2 ha.out hrd (Nat.le_refl _)).mono ?_
      rintro e w4 ⟨A3, c3, rfl, ho3, hb4⟩
      go_wp2_with fail
      go_ret2
      exact retLB_mk hnl.out hno.out hb13 ho3 hb4

end Go.Proofs.Ytmeaegopenbelaa
