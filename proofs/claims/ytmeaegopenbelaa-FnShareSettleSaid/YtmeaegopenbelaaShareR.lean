/-
  The reference's ShareMake, ShareRide, ShareSettle.
-/
import Derived.Test.YtmeaegopenbelaaShareS
import Derived.BigRegion
namespace Go.Proofs.Ytmeaegopenbelaa
open Go.RowKit

theorem retLB_mk {E : TypeId} {l L : List Int} {b : Bool} {w w1 w2 : World} (h1 : l = L) (h2 : b = true) (hb : Below w.heap.size w w1) {A : Option Addr} {c : Nat} (ho : w2.ownsRow w1.heap.size E 1 (.slice A L.length c) L.length (ints L)) (hb2 : Below w1.heap.size w1 w2) :
    RetLB E l b w (.returned (.tuple #[.slice A L.length c, .bool true])) w2 := by
  subst h1 h2
  exact ⟨A, c, rfl, own_mono ho hb.size, hb.trans (hb2.mono hb.size)⟩
/-- What the miles of a road are for the sharing. -/
theorem cnt_share {own : List Int} (h : ∀ o ∈ own, 0 ≤ o ∧ o ≤ 5) (h1 : 1 ≤ own.length) (h2 : own.length ≤ 1188) : (cntL own).length = 6 ∧ (∀ x ∈ cntL own, 0 ≤ x ∧ x ≤ 1188) ∧ 0 < sumI (cntL own) :=
  ⟨cntL_len own, fun x hx => by have := cntL_bd own x hx; omega, cnt_pos h (by omega)⟩
set_option maxHeartbeats 2000000 in
theorem sShareMake_any (A : Option Addr) (c lo hi : Nat) (ps : List T2) (a : Int) (w : World) (hl : ps.length ≤ 1048576) (hr : Rd w lo hi A (flat2 ps)) (hh : hi ≤ w.heap.size) :
    Calls Try.prog 12 #[.slice A ps.length c, .int .i64 a] w (RetLB 3 (makeV ps a) (makeOk ps a) w) := by
  cases hok : partsB ps
  · have HV := Lib.hid hok
    have hno := Lib.hid (show makeOk ps a = false by unfold makeOk; rw [hok]; rfl)
    have hnl := Lib.hid (show makeV ps a = [] by unfold makeV; rw [hno.out]; rfl)
    clear hok
    go_enter Try.func12, Try.ntmps12
    go_wp2_with fail
    refine (sPartsValid_any _ _ _ _ ps _ hl hr).mono ?_
    rintro e w1 ⟨rfl, rfl⟩
    rw [HV.out]
    go_wp2_with fail
    go_ret2
    exact retLB_no hno.out hnl.out (Below.refl _ _) rfl
  · have HV := Lib.hid hok
    cases hia : inB a 0 1000000
    · have HI := Lib.hid hia
      have hno := Lib.hid (show makeOk ps a = false by unfold makeOk; rw [hok, hia]; rfl)
      have hnl := Lib.hid (show makeV ps a = [] by unfold makeV; rw [hno.out]; rfl)
      clear hok hia
      go_enter Try.func12, Try.ntmps12
      go_wp2_with fail
      refine (sPartsValid_any _ _ _ _ ps _ hl hr).mono ?_
      rintro e w1 ⟨rfl, rfl⟩
      rw [HV.out]
      go_wp2_with fail
      refine (l6In_any _ _ _ _).mono ?_
      rintro e w1 ⟨rfl, rfl⟩
      rw [HI.out]
      go_wp2_with fail
      go_ret2
      exact retLB_no hno.out hnl.out (Below.refl _ _) rfl
    · have HI := Lib.hid hia
      have hno := Lib.hid (show makeOk ps a = true by unfold makeOk; rw [hok, hia]; rfl)
      have hnl := Lib.hid (show makeV ps a = shareL (cntL (ownersL ps)) a by unfold makeV; rw [hno.out]; rfl)
      obtain ⟨_, _, p3, p4, p5⟩ := parts_pos hok
      have HC := Lib.hid (cnt_share p5 p4 p3)
      obtain ⟨M, hM⟩ : ∃ M, M = cntL (ownersL ps) := ⟨_, rfl⟩
      rw [← hM] at HC hnl
      have HM := Lib.hid hM
      have ha := of_inB hia
      clear hok hia hM p3 p4 p5
      go_enter Try.func12, Try.ntmps12
      go_wp2_with fail
      refine (sPartsValid_any _ _ _ _ ps _ hl hr).mono ?_
      rintro e w1 ⟨rfl, rfl⟩
      rw [HV.out]
      go_wp2_with fail
      refine (l6In_any _ _ _ _).mono ?_
      rintro e w1 ⟨rfl, rfl⟩
      rw [HI.out]
      go_wp2_with fail
      refine (sMiles_any _ _ _ _ ps _ HV.out hr hh).mono ?_
      rintro e w2 ⟨A2, c2, rfl, ho2, hb2⟩
      rw [← HM.out] at ho2 ⊢
      go_wp2_with fail
      refine (sShare_any _ _ _ _ M a _ HC.out.1 HC.out.2.1 HC.out.2.2 ha (Rd.of_own ho2) (Nat.le_refl _)).mono ?_
      rintro e w3 ⟨A3, c3, rfl, ho3, hb3⟩
      clear ha
      go_wp2_with fail
      go_ret2
      exact retLB_mk hnl.out hno.out hb2 ho3 hb3
set_option maxHeartbeats 2000000 in
theorem sShareRide_any (A : Option Addr) (c lo hi : Nat) (ps : List T2) (f t a : Int) (w : World) (hl : ps.length ≤ 1048576) (hr : Rd w lo hi A (flat2 ps)) (hh : hi ≤ w.heap.size) (hf64 : in64 f) :
    Calls Try.prog 25 #[.slice A ps.length c, .int .i64 f, .int .i64 t, .int .i64 a] w (RetLB 3 (rideShV ps f t a) (rideShOk ps f t a) w) := by
  cases hok : stretchB ps f t
  · have HV := Lib.hid hok
    have hno := Lib.hid (show rideShOk ps f t a = false by unfold rideShOk; rw [hok]; rfl)
    have hnl := Lib.hid (show rideShV ps f t a = [] by unfold rideShV; rw [hno.out]; rfl)
    clear hok
    go_enter Try.func25, Try.ntmps25
    go_wp2_with fail
    refine (sStretch_any _ _ _ _ ps f t _ hl hr hh hf64).mono ?_
    rintro e w1 ⟨rfl, hb1⟩
    rw [HV.out]
    go_wp2_with fail
    go_ret2
    exact retLB_no hno.out hnl.out hb1 rfl
  · have HV := Lib.hid hok
    cases hia : inB a 0 1000000
    · have HI := Lib.hid hia
      have hno := Lib.hid (show rideShOk ps f t a = false by unfold rideShOk; rw [hok, hia]; rfl)
      have hnl := Lib.hid (show rideShV ps f t a = [] by unfold rideShV; rw [hno.out]; rfl)
      clear hok hia
      go_enter Try.func25, Try.ntmps25
      go_wp2_with fail
      refine (sStretch_any _ _ _ _ ps f t _ hl hr hh hf64).mono ?_
      rintro e w1 ⟨rfl, hb1⟩
      rw [HV.out]
      go_wp2_with fail
      refine (l6In_any _ _ _ _).mono ?_
      rintro e w2 ⟨rfl, rfl⟩
      rw [HI.out]
      go_wp2_with fail
      go_ret2
      exact retLB_no hno.out hnl.out hb1 rfl
    · have HI := Lib.hid hia
      have hno := Lib.hid (show rideShOk ps f t a = true by unfold rideShOk; rw [hok, hia]; rfl)
      have hnl := Lib.hid (show rideShV ps f t a = shareL (cntL (stretchL ps f t)) a by unfold rideShV; rw [hno.out]; rfl)
      obtain ⟨hpv, hf0, hft, htl, hsl, hsin, hsp, _⟩ := stretch_and hok
      obtain ⟨_, _, p3, p4, p5⟩ := parts_pos hpv
      have HC := Lib.hid (cnt_share hsin (by omega) (by omega))
      have HPV := Lib.hid hpv
      have HP5 := Lib.hid p5
      have hOl : (ownersL ps).length ≤ 1188 := p3
      obtain ⟨O, hO⟩ : ∃ O, O = ownersL ps := ⟨_, rfl⟩
      rw [← hO] at htl hOl HP5
      have HO := Lib.hid hO
      have ha := of_inB hia
      obtain ⟨i0, hi0, hz0, hz1, hz2⟩ := info_parts infoInt
      have hc1 : i0.bytes * 6 ≤ 281474976710656 := by rw [hz2]; omega
      clear hok hia hO p3 p4 p5 hsl hsin hsp hpv
      go_enter Try.func25, Try.ntmps25
      go_wp2_with fail
      refine (sStretch_any _ _ _ _ ps f t _ hl hr hh hf64).mono ?_
      rintro e w1 ⟨rfl, hb1⟩
      rw [HV.out]
      go_wp2_with fail
      refine (l6In_any _ _ _ _).mono ?_
      rintro e w1 ⟨rfl, rfl⟩
      rw [HI.out]
      go_wp2_with (first | (at_make; go_must (refine wpList_make_full _ rfl _ _ 26 rfl w.heap.size 3 i0 _ 1 Try.underlying26 hi0 hz0 hz1 _ _ _ _ 6 rfl rfl rfl rfl hc1 (by simp [maxLen]) hb1.size ?_); intro w2 hown hg))
      rw [made1] at hown
      have hb2 : Below w.heap.size w w2 := hb1.grown hg hb1.size (by simp)
      have hsz2 := hb2.size
      refine (sOwners_any _ _ _ _ ps _ HPV.out (hr.below hb2 hh) (Nat.le_trans hh hsz2)).mono ?_
      rintro e w3 ⟨A3, c3, rfl, ho3, hb3⟩
      rw [← HO.out] at ho3 ⊢
      have hown3 := own_below hown hb3
      have hb13 := hb2.trans (hb3.mono hsz2)
      have hro3 := Rd.of_own ho3
      have hg2 := (own_lt hown).2
      have HRO := Lib.hid hro3
      have hb1s := hb1.size
      clear hown hg hb3 ho3 hb2 hro3
      go_wp2_with fail
      go_loopw [12] (fun i wr => ∃ k : Int, f ≤ k ∧ k ≤ t ∧ i = .int .i64 k ∧ mRel w.heap.size 3 w1.heap.size 6 (cntL (stretchL ps f k)) wr ∧ Rd wr w2.heap.size w3.heap.size A3 (ints O) ∧ Below w.heap.size w wr) (fun i _ => (t - intOf i).toNat)
      case atStart => exact ⟨f, by omega, by omega, rfl, by simpa [mRel, stretch_none, cntL_nil] using hown3, HRO.out, hb13⟩
      case round =>
        obtain ⟨k, hk1, hk2, rfl, hrow, hro, hb⟩ := hrel
        clear hown3
        by_cases hlt : k < t
        · have hkO : k.toNat < O.length := by omega
          obtain ⟨b, off, rfl, hlo, hhi, c0⟩ := hro.at1 k.toNat hkO
          have hx := HP5.out O[k.toNat] (List.getElem_mem hkO)
          have hst := stretch_next (ps := ps) hf0 hk1 (by rw [← HO.out]; exact hkO)
          have hst' : stretchL ps f (k + 1) = stretchL ps f k ++ [O[k.toNat]] := by
            rw [hst]; congr 2; simp only [HO.out]
          obtain ⟨own, ho⟩ : ∃ own, own = stretchL ps f k := ⟨_, rfl⟩
          rw [← ho] at hrow hst'
          have hol : own.length ≤ 1188 := by
            rw [ho]; unfold stretchL; rw [List.length_drop, List.length_take, ← HO.out]; omega
          have HOW := Lib.hid ho
          clear hst ho
          generalize O[k.toNat] = x at *
          obtain ⟨x0, x1⟩ := hx
          have hset := cntL_snoc own x0 x1
          rw [← hst'] at hset
          have hi6 : x.toNat < (cntL own).length := by rw [cntL_len]; omega
          have hgd := cntL_bd own ((cntL own)[x.toNat]) (List.getElem_mem hi6)
          have hgg : (cntL own).getD x.toNat 0 = (cntL own)[x.toNat] := by rw [List.getD_eq_getElem?_getD, List.getElem?_eq_getElem hi6]; rfl
          rw [hgg] at hset
          have d0 := own1_cell hrow x.toNat hi6
          have f0 := hrow.frozenAt x.toNat
          have hst2 := own1_store hrow x.toNat ((cntL own)[x.toNat] + 1)
          rw [← hset] at hst2
          have HST := Lib.hid hst2
          clear hset hst2 hst' hgg
          generalize (cntL own)[x.toNat] = y at *
          obtain ⟨hy0, hy1⟩ := hgd
          have hy : y ≤ 1188 := by omega
          have hk0 : (0 : Int) ≤ k := by omega
          have hk3 : k < (O.length : Int) := by omega
          have hgb : w1.heap.size ≠ b := by omega
          have wy : IntKind.i64.wrap (y + 1) = y + 1 := IntWalk.i64_in _ (by omega)
          have x16 : x < 6 := by omega
          have hro2 := Lib.hid (hro.keep (w' := wr.setCell ⟨w1.heap.size, x.toNat, none⟩ (.int .i64 (y + 1))) (fun p h1 _ => World.cell?_setCell_other _ _ _ _ (fun e => by rw [← e] at h1; simp only at h1; omega)))
          clear hrow hi6 hro hy1
          go_wp2_with fail
          go_region
          have HB := hb.setCell (p := ⟨w1.heap.size, x.toNat, none⟩) hb1s (.int .i64 (y + 1))
          clear wy
          go_wp2_with fail
          go_roundw
          case rel => exact ⟨k + 1, by omega, by omega, rfl, HST.out.drew, hro2.out.drew, HB.drew⟩
          case measure => simp [intOf]; omega
        · obtain rfl : k = t := by omega
          have e6 : (cntL (stretchL ps f k)).length = 6 := cntL_len _
          obtain ⟨M, hM⟩ : ∃ M, M = cntL (stretchL ps f k) := ⟨_, rfl⟩
          rw [← hM] at HC hnl hrow e6
          have HMM := Lib.hid hM
          clear hM
          have hrow' : wr.ownsRow w.heap.size 3 1 (.slice (some ⟨w1.heap.size, 0, none⟩) M.length 6) M.length (ints M) := by rw [e6]; exact hrow
          have HE6 := Lib.hid e6
          clear e6
          go_wp2_with fail
          have HS := sShare_any (some ⟨w1.heap.size, 0, none⟩) 6 w.heap.size wr.heap.size M a wr HC.out.1 HC.out.2.1 HC.out.2.2 ha (Rd.of_own hrow') (Nat.le_refl _)
          rw [HE6.out] at HS
          refine HS.mono ?_
          rintro e w5 ⟨A5, c5, rfl, ho5, hb5⟩
          clear ha
          go_wp2_with fail
          go_ret2
          exact retLB_mk hnl.out hno.out hb ho5 hb5

end Go.Proofs.Ytmeaegopenbelaa
