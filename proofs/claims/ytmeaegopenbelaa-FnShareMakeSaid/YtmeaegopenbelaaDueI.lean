/-
  The program's ShareDue.
-/
import Derived.Test.YtmeaegopenbelaaSettleI
namespace Go.Proofs.Ytmeaegopenbelaa
open Go.RowKit

set_option maxHeartbeats 2000000 in
theorem iShareDue_any (A : Option Addr) (c lo hi : Nat) (ps : List T2) (a : Int) (w : World) (hl : ps.length ≤ 1048576) (hr : Rd w lo hi A (flat2 ps)) (hh : hi ≤ w.heap.size) :
    Calls Try.prog 15 #[.slice A ps.length c, .int .i64 a] w (RetLB 3 (dueV ps a) (makeOk ps a) w) := by
  cases hok : partsB ps
  · have HV := Lib.hid hok
    have hno := Lib.hid (show makeOk ps a = false by unfold makeOk; rw [hok]; rfl)
    have hnl := Lib.hid (show dueV ps a = [] by unfold dueV; rw [hno.out]; rfl)
    clear hok
    go_enter Try.func15, Try.ntmps15
    go_wp2_with fail
    refine (iPartsMiles_any _ _ _ _ ps _ hl hr hh).mono ?_
    rintro e w1 ⟨B, d, rfl, ho, hb⟩
    rw [HV.out]
    go_wp2_with fail
    go_ret2
    exact retLB_no hno.out hnl.out hb rfl
  · have HV := Lib.hid hok
    cases hia : inB a 0 1000000
    · have HI := Lib.hid hia
      have hno := Lib.hid (show makeOk ps a = false by unfold makeOk; rw [hok, hia]; rfl)
      have hnl := Lib.hid (show dueV ps a = [] by unfold dueV; rw [hno.out]; rfl)
      clear hok hia
      go_enter Try.func15, Try.ntmps15
      go_wp2_with fail
      refine (iPartsMiles_any _ _ _ _ ps _ hl hr hh).mono ?_
      rintro e w1 ⟨B, d, rfl, ho, hb⟩
      rw [HV.out]
      go_wp2_with fail
      refine (iAmount_any _ _).mono ?_
      rintro e w2 ⟨rfl, rfl⟩
      rw [HI.out]
      go_wp2_with fail
      go_ret2
      exact retLB_no hno.out hnl.out hb rfl
    · have HI := Lib.hid hia
      have hno := Lib.hid (show makeOk ps a = true by unfold makeOk; rw [hok, hia]; rfl)
      have hnl := Lib.hid (show dueV ps a = (cntL (ownersL ps)).map (fun x => x * a) by unfold dueV; rw [hno.out]; rfl)
      have hmv := Lib.hid (show milesV ps = cntL (ownersL ps) by unfold milesV; rw [hok]; rfl)
      obtain ⟨_, _, p3, p4, p5⟩ := parts_pos hok
      have HC := Lib.hid (cnt_share p5 p4 p3)
      obtain ⟨M, hM⟩ : ∃ M, M = cntL (ownersL ps) := ⟨_, rfl⟩
      rw [← hM] at HC hnl hmv
      obtain ⟨ha0, ha1⟩ := of_inB hia
      obtain ⟨D, hD⟩ : ∃ D, D = M.map (fun x => x * a) := ⟨_, rfl⟩
      rw [← hD] at hnl
      have HDL := Lib.hid (show D.length = 6 by rw [hD, List.length_map, HC.out.1])
      have HDG := Lib.hid (show ∀ (k : Nat) (hk : k < D.length) (hk' : k < M.length), D[k] = M[k] * a from fun k hk hk' => by simp only [hD, List.getElem_map])
      clear hok hia hM p3 p4 p5 hD
      go_enter Try.func15, Try.ntmps15
      go_wp2_with fail
      refine (iPartsMiles_any _ _ _ _ ps _ hl hr hh).mono ?_
      rintro e w1 ⟨B, d, rfl, ho, hb⟩
      rw [HV.out, hmv.out, HC.out.1]
      rw [hmv.out, HC.out.1] at ho
      obtain ⟨g, cap, hv, hbg, hgl⟩ := ho.form (by omega)
      injection hv with hA _ hc
      subst hA hc
      have hbs := hb.size
      go_wp2_with fail
      refine (iAmount_any _ _).mono ?_
      rintro e w2 ⟨rfl, rfl⟩
      rw [HI.out]
      go_wp2_with fail
      go_loopw [24] (fun i wr => ∃ k : Nat, k ≤ 6 ∧ i = .int .i64 k ∧ Hid (mRel w.heap.size 3 g d (D.take k ++ M.drop k) wr) ∧ Below w.heap.size w wr) (fun i _ => 6 - (intOf i).toNat)
      case atStart => exact ⟨0, by omega, rfl, Lib.hid (by simpa [mRel] using ho), hb⟩
      case round =>
        obtain ⟨k, hk, rfl, HROW, hb'⟩ := hrel
        clear ho
        by_cases hk6 : k < 6
        · have hkM : k < M.length := by have := HC.out.1; omega
          have hkD : k < D.length := by have := HDL.out; omega
          have hrow := HROW.out
          have hlen : k < (D.take k ++ M.drop k).length := by rw [List.length_append, List.length_take, List.length_drop]; omega
          have d0 := own1_cell hrow k hlen
          rw [minus_at hkM hkD] at d0
          have f0 := hrow.frozenAt k
          have hst := own1_store hrow k (D[k])
          rw [minus_step hkM hkD, HDG.out k hkD hkM] at hst
          have hx := HC.out.2.1 M[k] (List.getElem_mem hkM)
          have HST := Lib.hid hst
          clear hst hlen
          generalize M[k] = x at *
          obtain ⟨hx0, hx1⟩ := hx
          have hp0 : 0 ≤ x * a := Int.mul_nonneg hx0 ha0
          have hp1 : x * a ≤ 1188 * 1000000 := Int.mul_le_mul hx1 ha1 ha0 (by omega)
          have wm : IntKind.i64.wrap (x * a) = x * a := IntWalk.i64_in _ (by omega)
          have hk0 : (0 : Int) ≤ (k : Int) := by omega
          have hk1 : (k : Int) < 6 := by omega
          have HB3 := Lib.hid (hb'.setCell (p := ⟨g, k, none⟩) (show w.heap.size ≤ g by omega) (.int .i64 (x * a)))
          clear hrow hkM hkD HROW hp0 hp1
          go_wp2_with fail
          go_roundw
          case rel => exact ⟨k + 1, by omega, by go_num, HST, HB3.out⟩
          case measure => simp [intOf]; omega
        · obtain rfl : k = 6 := by omega
          have hfin : D.take 6 ++ M.drop 6 = D := by
            rw [List.take_of_length_le (by rw [HDL.out]; omega), List.drop_eq_nil_of_le (by rw [HC.out.1]; omega), List.append_nil]
          have hrow := HROW.out
          rw [hfin] at hrow
          have e6 := Lib.hid (show (dueV ps a).length = 6 by rw [hnl.out, HDL.out])
          have HRW := Lib.hid hrow
          clear hfin hrow
          go_wp2_with fail
          go_ret2
          exact ⟨some ⟨g, 0, none⟩, d, by rw [e6.out, hno.out]; rfl, by rw [e6.out, hnl.out]; exact HRW.out, hb'⟩

end Go.Proofs.Ytmeaegopenbelaa
