/-
  The program's PartsValid, PartsLength, rideValid, amountValid.
-/
import Derived.Test.YtmeaegopenbelaaPartsMath
import Derived.Test.YtmeaegopenbelaaInts
import Derived.Test.YtmeaegopenbelaaLawFns
namespace Go.Proofs.Ytmeaegopenbelaa
open Go.RowKit

theorem iAmount_any (a : Int) (w : World) : Calls Try.prog 36 #[.int .i64 a] w fun e w' => e = .returned (.bool (inB a 0 1000000)) ∧ w = w' := by
  by_cases h0 : 0 ≤ a
  · have d0 := decide_eq_true h0
    have hres := Lib.hid (show inB a 0 1000000 = decide (a ≤ 1000000) by unfold inB; rw [d0, Bool.true_and])
    go_enter Try.func36, Try.ntmps36
    go_wp2
    go_ret
    exact ⟨ret_bool hres.out.symm, rfl⟩
  · have d0 := decide_eq_false h0
    have hres := Lib.hid (show inB a 0 1000000 = false by unfold inB; rw [d0, Bool.false_and])
    clear h0
    go_enter Try.func36, Try.ntmps36
    go_wp2
    go_ret
    exact ⟨ret_bool hres.out.symm, rfl⟩
set_option maxHeartbeats 2000000 in
theorem iPartsValid_any (A : Option Addr) (c lo hi : Nat) (ps : List T2) (w : World) (hl : ps.length ≤ 1048576) (hr : Rd w lo hi A (flat2 ps)) (hh : hi ≤ w.heap.size) :
    Calls Try.prog 42 #[.slice A ps.length c] w fun e w' => e = .returned (.bool (partsB ps)) ∧ Below w.heap.size w w' := by
  by_cases hz : 1 ≤ ps.length ∧ ps.length ≤ 12
  case neg =>
    have hres := Lib.hid (show partsB ps = false by
      cases h : partsB ps
      · rfl
      · exact absurd (parts_and h).2 hz)
    by_cases h1 : ps.length < 1
    · have e0 : ps.length = 0 := by omega
      have d1 : decide ((ps.length : Int) < 1) = true := decide_eq_true (by omega)
      have H0 := Lib.hid e0
      clear hz h1 e0
      generalize ps.length = n at *
      go_enter Try.func42, Try.ntmps42
      go_wp2
      go_ret
      exact ⟨ret_bool hres.out.symm, by (repeat (first | exact Below.refl _ _ | assumption | apply below_alloc | apply below_drewN | apply Below.drew | refine Below.setCell ?_ (by simp; try omega) _))⟩
    · have d1 : decide ((ps.length : Int) < 1) = false := decide_eq_false (by omega)
      have d2 : decide ((12 : Int) < (ps.length : Int)) = true := decide_eq_true (by omega)
      clear hz h1
      go_enter Try.func42, Try.ntmps42
      go_wp2
      go_ret
      exact ⟨ret_bool hres.out.symm, by (repeat (first | exact Below.refl _ _ | assumption | apply below_alloc | apply below_drewN | apply Below.drew | refine Below.setCell ?_ (by simp; try omega) _))⟩
  case pos =>
    obtain ⟨hz1, hz2⟩ := hz
    have d1 : decide ((ps.length : Int) < 1) = false := decide_eq_false (by omega)
    have d2 : decide ((12 : Int) < (ps.length : Int)) = false := decide_eq_false (by omega)
    have HIB := Lib.hid (show inB (ps.length : Int) 1 12 = true from inB_true (by omega))
    go_enter Try.func42, Try.ntmps42
    go_wp2
    go_loopw [4, 15] (fun _ i wr => ∃ k : Nat, k ≤ ps.length ∧ i = .int .i64 k ∧ Hid ((ps.take k).all partOk = true) ∧ Below w.heap.size w wr) (fun _ i _ => ps.length - (intOf i).toNat)
    case atStart => exact ⟨0, Nat.zero_le _, rfl, by simp [Hid], Below.refl _ _⟩
    case round =>
      obtain ⟨k, hk, rfl, H, hb⟩ := hrel
      have hbs := hb.size
      by_cases hlt : k < ps.length
      · obtain ⟨b, off, rfl, hlo, hhi, c0, c1⟩ := (hr.below hb hh).at2 k hlt
        have HN := Lib.hid (show (ps.take (k + 1)).all partOk = (inB ps[k].1 0 5 && inB ps[k].2 1 99) by
          rw [List.take_succ_eq_append_getElem hlt, List.all_append, H.out]; simp [partOk])
        have HF := Lib.hid (show (inB ps[k].1 0 5 && inB ps[k].2 1 99) = false → partsB ps = false from fun h => by
          have : ps.all partOk = false := by
            rw [List.all_eq_false]
            exact ⟨ps[k], List.getElem_mem hlt, by unfold partOk; rw [h]; simp⟩
          rw [partsB, this, Bool.false_and])
        generalize ps[k] = x at *
        by_cases hx : (0 ≤ x.1 ∧ x.1 ≤ 5) ∧ (1 ≤ x.2 ∧ x.2 ≤ 99)
        · have hnx := Lib.hid (show (ps.take (k + 1)).all partOk = true by rw [HN.out, inB_true hx.1, inB_true hx.2]; rfl)
          obtain ⟨⟨x0, x1⟩, x2, x3⟩ := hx
          have e1 : decide (x.1 < 0) = false := decide_eq_false (by omega)
          have e2 : decide (6 ≤ x.1) = false := decide_eq_false (by omega)
          have e3 : decide (x.2 < 1) = false := decide_eq_false (by omega)
          have e4 : decide (99 < x.2) = false := decide_eq_false (by omega)
          go_wp2
          go_roundw
          case rel => exact ⟨k + 1, by omega, by go_num, hnx, by (repeat (first | exact Below.refl _ _ | assumption | apply below_alloc | apply below_drewN | apply Below.drew | refine Below.setCell ?_ (by simp; try omega) _))⟩
          case measure => simp [intOf]; omega
        · have hres := Lib.hid (HF.out (by
            cases h : (inB x.1 0 5 && inB x.2 1 99)
            · rfl
            · rw [Bool.and_eq_true] at h
              exact absurd ⟨of_inB h.1, of_inB h.2⟩ hx))
          by_cases h1 : x.1 < 0
          · have e1 : decide (x.1 < 0) = true := decide_eq_true h1
            clear hx h1
            go_wp2
            go_ret
            exact ⟨ret_bool hres.out.symm, by (repeat (first | exact Below.refl _ _ | assumption | apply below_alloc | apply below_drewN | apply Below.drew | refine Below.setCell ?_ (by simp; try omega) _))⟩
          · have e1 : decide (x.1 < 0) = false := decide_eq_false h1
            by_cases h2 : 6 ≤ x.1
            · have e2 : decide (6 ≤ x.1) = true := decide_eq_true h2
              clear hx h1 h2
              go_wp2
              go_ret
              exact ⟨ret_bool hres.out.symm, by (repeat (first | exact Below.refl _ _ | assumption | apply below_alloc | apply below_drewN | apply Below.drew | refine Below.setCell ?_ (by simp; try omega) _))⟩
            · have e2 : decide (6 ≤ x.1) = false := decide_eq_false h2
              by_cases h3 : x.2 < 1
              · have e3 : decide (x.2 < 1) = true := decide_eq_true h3
                clear hx h1 h2 h3
                go_wp2
                go_ret
                exact ⟨ret_bool hres.out.symm, by (repeat (first | exact Below.refl _ _ | assumption | apply below_alloc | apply below_drewN | apply Below.drew | refine Below.setCell ?_ (by simp; try omega) _))⟩
              · have e3 : decide (x.2 < 1) = false := decide_eq_false h3
                have e4 : decide (99 < x.2) = true := decide_eq_true (by omega)
                clear hx h1 h2 h3
                go_wp2
                go_ret
                exact ⟨ret_bool hres.out.symm, by (repeat (first | exact Below.refl _ _ | assumption | apply below_alloc | apply below_drewN | apply Below.drew | refine Below.setCell ?_ (by simp; try omega) _))⟩
      · have hres := Lib.hid (show partsB ps = true by
          have h := H.out
          rw [List.take_of_length_le (by omega)] at h
          rw [partsB, h, HIB.out]; rfl)
        go_wp2
        go_ret
        exact ⟨ret_bool hres.out.symm, hb⟩
set_option maxHeartbeats 2000000 in
theorem iPartsLength_any (A : Option Addr) (c lo hi : Nat) (ps : List T2) (w : World) (hl : ps.length ≤ 1048576) (hr : Rd w lo hi A (flat2 ps)) (hh : hi ≤ w.heap.size) :
    Calls Try.prog 16 #[.slice A ps.length c] w fun e w' => e = .returned (.int .i64 (lenV ps)) ∧ Below w.heap.size w w' := by
  cases hok : partsB ps
  · have HV := Lib.hid hok
    have hres := Lib.hid (show lenV ps = -1 by unfold lenV; rw [hok]; rfl)
    clear hok
    go_enter Try.func16, Try.ntmps16
    go_wp2_with fail
    refine (iPartsValid_any _ _ _ _ ps _ hl hr hh).mono ?_
    rintro e w1 ⟨rfl, hb⟩
    rw [HV.out]
    go_wp2_with fail
    go_ret
    exact ⟨ret_int hres.out.symm, hb⟩
  · have HV := Lib.hid hok
    obtain ⟨hin, hl1, hl2⟩ := parts_and hok
    have HIN := Lib.hid hin
    have hres := Lib.hid (show lenV ps = ((ownersL ps).length : Nat) by unfold lenV; rw [hok]; rfl)
    clear hok hin
    go_enter Try.func16, Try.ntmps16
    go_wp2_with fail
    refine (iPartsValid_any _ _ _ _ ps _ hl hr hh).mono ?_
    rintro e w1 ⟨rfl, hb1⟩
    rw [HV.out]
    go_wp2_with fail
    go_loopw [3, 5, 11] (fun s _ i wr => ∃ (k m : Nat), k ≤ ps.length ∧ i = .int .i64 k ∧ s = .int .i64 m ∧ Hid (m = (ownersL (ps.take k)).length) ∧ m ≤ 1188 ∧ Below w.heap.size w wr) (fun _ _ i _ => ps.length - (intOf i).toNat)
    case atStart => exact ⟨0, 0, Nat.zero_le _, rfl, rfl, by simp [Hid, ownersL], by omega, hb1⟩
    case round =>
      obtain ⟨k, m, hk, rfl, rfl, HM, hm, hb⟩ := hrel
      have hbs := hb.size
      by_cases hlt : k < ps.length
      · obtain ⟨b, off, rfl, hlo, hhi, c0, c1⟩ := (hr.below hb hh).at2 k hlt
        have hx := HIN.out ps[k] (List.getElem_mem hlt)
        have hst := owners_take_succ hlt
        have hn : (ownersL (ps.take (k + 1))).length = m + ps[k].2.toNat := by rw [hst, List.length_append, List.length_replicate, ← HM.out]
        have hbd := (owners_take_len HIN.out (k + 1)).1
        have HN := Lib.hid hn.symm
        have hm2 : m + ps[k].2.toNat ≤ 1188 := by omega
        clear hst hn hbd
        generalize ps[k] = x at *
        obtain ⟨x0, x1, x2, x3⟩ := hx
        have e : (m : Int) + x.2 = ((m + x.2.toNat : Nat) : Int) := by omega
        have HE := Lib.hid e
        clear e
        go_wp2
        go_roundw
        case rel => exact ⟨k + 1, m + x.2.toNat, by omega, by go_num, by rw [HE.out], HN, hm2, by (repeat (first | exact Below.refl _ _ | assumption | apply below_alloc | apply below_drewN | apply Below.drew | refine Below.setCell ?_ (by simp; try omega) _))⟩
        case measure => simp [intOf]; omega
      · have hfin := Lib.hid (show lenV ps = (m : Int) by rw [hres.out, HM.out, List.take_of_length_le (by omega)])
        go_wp2
        go_ret
        exact ⟨ret_int hfin.out.symm, hb⟩
set_option maxHeartbeats 1000000 in
theorem iRideValid_any (A : Option Addr) (c lo hi : Nat) (ps : List T2) (a b : Int) (w : World) (hl : ps.length ≤ 1048576) (hr : Rd w lo hi A (flat2 ps)) (hh : hi ≤ w.heap.size) :
    Calls Try.prog 48 #[.slice A ps.length c, .int .i64 a, .int .i64 b] w fun e w' => e = .returned (.bool (stretchB ps a b)) ∧ Below w.heap.size w w' := by
  have HB := Lib.hid (show stretchB ps a b = (partsB ps && decide (0 ≤ a) && decide (a < b) && decide (b ≤ lenV ps)) by
    unfold stretchB lenV
    cases hok : partsB ps
    · simp
    · simp only [if_true, Bool.true_and]
      rw [Bool.eq_iff_iff]
      simp only [Bool.and_eq_true, decide_eq_true_eq]
      omega)
  go_enter Try.func48, Try.ntmps48
  go_wp2_with fail
  refine (iPartsValid_any _ _ _ _ ps _ hl hr hh).mono ?_
  rintro e w1 ⟨rfl, hb1⟩
  have hbs := hb1.size
  cases hok : partsB ps
  · have hres := Lib.hid (show stretchB ps a b = false by rw [HB.out, hok]; rfl)
    clear hok
    go_wp2_with fail
    go_ret
    exact ⟨ret_bool hres.out.symm, hb1⟩
  · by_cases h1 : 0 ≤ a
    · by_cases h2 : a < b
      · have e1 : decide (0 ≤ a) = true := decide_eq_true h1
        have e2 : decide (a < b) = true := decide_eq_true h2
        have hres := Lib.hid (show stretchB ps a b = decide (b ≤ lenV ps) by rw [HB.out, hok, decide_eq_true h1, decide_eq_true h2]; rfl)
        clear hok
        go_wp2_with fail
        refine (iPartsLength_any _ _ _ _ ps _ hl (hr.below hb1 hh) (Nat.le_trans hh hbs)).mono ?_
        rintro e w2 ⟨rfl, hb2⟩
        have hb12 := hb1.trans (hb2.mono hbs)
        generalize lenV ps = V at *
        go_wp2_with fail
        go_ret
        exact ⟨ret_bool hres.out.symm, hb12⟩
      · have e1 : decide (0 ≤ a) = true := decide_eq_true h1
        have e2 : decide (a < b) = false := decide_eq_false h2
        have hres := Lib.hid (show stretchB ps a b = false by rw [HB.out, hok, decide_eq_false h2]; simp)
        clear hok h2
        go_wp2_with fail
        go_ret
        exact ⟨ret_bool hres.out.symm, hb1⟩
    · have e1 : decide (0 ≤ a) = false := decide_eq_false h1
      have hres := Lib.hid (show stretchB ps a b = false by rw [HB.out, hok, decide_eq_false h1]; simp)
      clear hok h1
      go_wp2_with fail
      go_ret
      exact ⟨ret_bool hres.out.symm, hb1⟩

end Go.Proofs.Ytmeaegopenbelaa
