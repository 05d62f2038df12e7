/-
  Contracts of LateArrive, LateLeave, LateEnd, LateSum, the reference's and the program's.
-/
import Derived.Test.YteceohdchknbbaaLate2S
import Derived.Test.YteceohdchknbbaaLate2I
namespace Go.Proofs.Yteceohdchknbbaa
open Go.RowKit

set_option maxHeartbeats 2000000 in
theorem sArrive_any (n : Int) (A : Option Addr) (c lo hi : Nat) (l : List T3) (least start : Int) (B : Option Addr) (d lo' hi' : Nat) (ds : List Int) (w : World) (hl : l.length ≤ 1048576) (hr : Rd w lo hi A (flat3 l)) (hh : hi ≤ w.heap.size) (hld : ds.length ≤ 1048576) (hrd : Rd w lo' hi' B (ints ds)) (hhd : hi' ≤ w.heap.size) :
    Calls Try.prog 40 #[.int .i64 n, .slice A l.length c, .int .i64 least, .int .i64 start, .slice B ds.length d] w (RetLB 3 (arrL n l least start ds) (lateOk n l least start ds) w) := by
  cases hok : lateOk n l least start ds
  · have HOK := Lib.hid hok
    have HL := Lib.hid (show arrL n l least start ds = [] by simp [arrL, hok])
    clear hok
    go_enter Try.func40, Try.ntmps40
    go_wp2_with fail
    refine (sOk_any n _ _ _ _ l least start _ _ _ _ ds _ hl hr hh hld hrd hhd).mono ?_
    rintro e w1 ⟨rfl, hb1⟩
    rw [HOK.out]
    go_wp2_with fail
    go_ret2
    exact retLB_no rfl HL.out hb1 rfl
  · have HOK := Lib.hid hok
    have HL := Lib.hid (show arrL n l least start ds = arrF l least start ds by simp [arrL, hok])
    clear hok
    go_enter Try.func40, Try.ntmps40
    go_wp2_with fail
    refine (sOk_any n _ _ _ _ l least start _ _ _ _ ds _ hl hr hh hld hrd hhd).mono ?_
    rintro e w1 ⟨rfl, hb1⟩
    rw [HOK.out]
    go_wp2_with fail
    refine (sRun_any n _ _ _ _ l least start _ _ _ _ ds _ HOK.out (hr.below hb1 hh) (Nat.le_trans hh hb1.size) (hrd.below hb1 hhd) (Nat.le_trans hhd hb1.size)).mono ?_
    rintro e w2 ⟨A1, c1, A2, c2, rfl, ho1, ho2, hb2⟩
    go_wp2_with fail
    go_ret2
    rw [HL.out]
    exact ⟨_, _, rfl, own_mono ho1 hb1.size, hb1.trans (hb2.mono hb1.size)⟩
set_option maxHeartbeats 2000000 in
theorem sLeave_any (n : Int) (A : Option Addr) (c lo hi : Nat) (l : List T3) (least start : Int) (B : Option Addr) (d lo' hi' : Nat) (ds : List Int) (w : World) (hl : l.length ≤ 1048576) (hr : Rd w lo hi A (flat3 l)) (hh : hi ≤ w.heap.size) (hld : ds.length ≤ 1048576) (hrd : Rd w lo' hi' B (ints ds)) (hhd : hi' ≤ w.heap.size) :
    Calls Try.prog 43 #[.int .i64 n, .slice A l.length c, .int .i64 least, .int .i64 start, .slice B ds.length d] w (RetLB 3 (leaL n l least start ds) (lateOk n l least start ds) w) := by
  cases hok : lateOk n l least start ds
  · have HOK := Lib.hid hok
    have HL := Lib.hid (show leaL n l least start ds = [] by simp [leaL, hok])
    clear hok
    go_enter Try.func43, Try.ntmps43
    go_wp2_with fail
    refine (sOk_any n _ _ _ _ l least start _ _ _ _ ds _ hl hr hh hld hrd hhd).mono ?_
    rintro e w1 ⟨rfl, hb1⟩
    rw [HOK.out]
    go_wp2_with fail
    go_ret2
    exact retLB_no rfl HL.out hb1 rfl
  · have HOK := Lib.hid hok
    have HL := Lib.hid (show leaL n l least start ds = leaF l least start ds by simp [leaL, hok])
    clear hok
    go_enter Try.func43, Try.ntmps43
    go_wp2_with fail
    refine (sOk_any n _ _ _ _ l least start _ _ _ _ ds _ hl hr hh hld hrd hhd).mono ?_
    rintro e w1 ⟨rfl, hb1⟩
    rw [HOK.out]
    go_wp2_with fail
    refine (sRun_any n _ _ _ _ l least start _ _ _ _ ds _ HOK.out (hr.below hb1 hh) (Nat.le_trans hh hb1.size) (hrd.below hb1 hhd) (Nat.le_trans hhd hb1.size)).mono ?_
    rintro e w2 ⟨A1, c1, A2, c2, rfl, ho1, ho2, hb2⟩
    go_wp2_with fail
    go_ret2
    rw [HL.out]
    exact ⟨_, _, rfl, own_mono ho2 hb1.size, hb1.trans (hb2.mono hb1.size)⟩
set_option maxHeartbeats 2000000 in
theorem sEnd_any (n : Int) (A : Option Addr) (c lo hi : Nat) (l : List T3) (least start : Int) (B : Option Addr) (d lo' hi' : Nat) (ds : List Int) (w : World) (hl : l.length ≤ 1048576) (hr : Rd w lo hi A (flat3 l)) (hh : hi ≤ w.heap.size) (hld : ds.length ≤ 1048576) (hrd : Rd w lo' hi' B (ints ds)) (hhd : hi' ≤ w.heap.size) :
    Calls Try.prog 37 #[.int .i64 n, .slice A l.length c, .int .i64 least, .int .i64 start, .slice B ds.length d] w fun e w' => e = .returned (.int .i64 (endV n l least start ds)) ∧ Below w.heap.size w w' := by
  cases hok : lateOk n l least start ds
  · have HOK := Lib.hid hok
    have HL := Lib.hid (show endV n l least start ds = -1 by simp [endV, hok])
    clear hok
    go_enter Try.func37, Try.ntmps37
    go_wp2_with fail
    refine (sArrive_any n _ _ _ _ l least start _ _ _ _ ds _ hl hr hh hld hrd hhd).mono ?_
    rintro e w1 ⟨A1, c1, rfl, ho1, hb1⟩
    rw [HOK.out]
    go_wp2_with fail
    go_ret
    exact ⟨ret_int HL.out.symm, hb1⟩
  · have HOK := Lib.hid hok
    have HA := Lib.hid (show arrL n l least start ds = arrF l least start ds by simp [arrL, hok])
    have HL := Lib.hid (show endV n l least start ds = lastD (arrF l least start ds) by simp [endV, hok])
    obtain ⟨hbd, hlen0, hlen8⟩ := arrF_bd hok
    have HBD := Lib.hid hbd
    clear hok hbd
    go_enter Try.func37, Try.ntmps37
    go_wp2_with fail
    refine (sArrive_any n _ _ _ _ l least start _ _ _ _ ds _ hl hr hh hld hrd hhd).mono ?_
    rintro e w1 ⟨A1, c1, rfl, ho1, hb1⟩
    rw [HOK.out, HA.out]
    rw [HA.out] at ho1
    generalize arrF l least start ds = L at *
    have hrd1 := Rd.of_own ho1
    clear ho1
    obtain ⟨b, off, rfl, _, _, c0⟩ := hrd1.at1 (L.length - 1) (by omega)
    have hlast := Lib.hid (show lastD L = L[L.length - 1] by unfold lastD; rw [List.getD_eq_getElem?_getD, List.getElem?_eq_getElem (by omega)]; rfl)
    have HX := Lib.hid (show L[L.length - 1] = L[L.length - 1] from rfl)
    generalize L[L.length - 1] = x at *
    have hcast : ((L.length : Int) - 1).toNat = L.length - 1 := by omega
    go_wp2_with fail
    go_ret
    exact ⟨ret_int (by rw [HL.out, hlast.out]), hb1⟩
set_option maxHeartbeats 2000000 in
theorem sSum_any (n : Int) (A : Option Addr) (c lo hi : Nat) (l : List T3) (least start : Int) (B : Option Addr) (d lo' hi' : Nat) (ds : List Int) (w : World) (hl : l.length ≤ 1048576) (hr : Rd w lo hi A (flat3 l)) (hh : hi ≤ w.heap.size) (hld : ds.length ≤ 1048576) (hrd : Rd w lo' hi' B (ints ds)) (hhd : hi' ≤ w.heap.size) :
    Calls Try.prog 46 #[.int .i64 n, .slice A l.length c, .int .i64 least, .int .i64 start, .slice B ds.length d] w fun e w' => e = .returned (.int .i64 (sumV n l least start ds)) ∧ Below w.heap.size w w' := by
  cases hok : lateOk n l least start ds
  · have HOK := Lib.hid hok
    have HL := Lib.hid (show sumV n l least start ds = -1 by simp [sumV, hok])
    clear hok
    go_enter Try.func46, Try.ntmps46
    go_wp2_with fail
    refine (sArrive_any n _ _ _ _ l least start _ _ _ _ ds _ hl hr hh hld hrd hhd).mono ?_
    rintro e w1 ⟨A1, c1, rfl, ho1, hb1⟩
    rw [HOK.out]
    go_wp2_with fail
    go_ret
    exact ⟨ret_int HL.out.symm, hb1⟩
  · have HOK := Lib.hid hok
    have HA := Lib.hid (show arrL n l least start ds = arrF l least start ds by simp [arrL, hok])
    have HL := Lib.hid (show sumV n l least start ds = sumI (arrF l least start ds) by simp [sumV, hok])
    obtain ⟨hbd, hlen0, hlen8⟩ := arrF_bd hok
    have HBD := Lib.hid hbd
    clear hok hbd
    go_enter Try.func46, Try.ntmps46
    go_wp2_with fail
    refine (sArrive_any n _ _ _ _ l least start _ _ _ _ ds _ hl hr hh hld hrd hhd).mono ?_
    rintro e w1 ⟨A1, c1, rfl, ho1, hb1⟩
    rw [HOK.out, HA.out]
    rw [HA.out] at ho1
    generalize arrF l least start ds = L at *
    have hrd1 := Rd.of_own ho1
    clear ho1
    go_wp2_with fail
    go_loop [13, 14] (fun s i => ∃ (k : Nat) (sm : Int), k ≤ L.length ∧ i = .int .i64 k ∧ s = .int .i64 sm ∧ Hid (sm = sumI (L.take k)) ∧ 0 ≤ sm ∧ sm ≤ k * 2400) (fun _ i => L.length - (intOf i).toNat)
    case atStart => exact ⟨0, 0, by omega, rfl, rfl, by simp [Hid, sumI], by omega, by omega⟩
    case round =>
      obtain ⟨k, sm, hk2, rfl, rfl, H, hs1, hs2⟩ := hrel
      by_cases hlt : k < L.length
      · obtain ⟨b', off', rfl, _, _, c0⟩ := hrd1.at1 k hlt
        have hq := HBD.out L[k] (List.getElem_mem hlt)
        have hst := Lib.hid (show sm + L[k] = sumI (L.take (k + 1)) by rw [List.take_succ_eq_append_getElem hlt, sumI_snoc, H.out])
        generalize L[k] = x at *
        go_wp2
        go_round
        case rel => exact ⟨k + 1, _, by omega, by go_num, rfl, hst, by omega, by omega⟩
        case measure => simp [intOf]; omega
      · have hfin := Lib.hid (show sumI L = sm by rw [H.out, List.take_of_length_le (by omega)])
        go_wp2
        go_ret
        exact ⟨ret_int (by rw [HL.out, hfin.out]), hb1⟩
set_option maxHeartbeats 2000000 in
theorem iArrive_any (n : Int) (A : Option Addr) (c lo hi : Nat) (l : List T3) (least start : Int) (B : Option Addr) (d lo' hi' : Nat) (ds : List Int) (w : World) (hl : l.length ≤ 1048576) (hr : Rd w lo hi A (flat3 l)) (hh : hi ≤ w.heap.size) (hld : ds.length ≤ 1048576) (hrd : Rd w lo' hi' B (ints ds)) (hhd : hi' ≤ w.heap.size) (hcap : l.length ≤ c) :
    Calls Try.prog 39 #[.int .i64 n, .slice A l.length c, .int .i64 least, .int .i64 start, .slice B ds.length d] w (RetLB 3 (arrL n l least start ds) (lateOk n l least start ds) w) := by
  go_enter Try.func39, Try.ntmps39
  go_wp2_with fail
  refine (both_any n _ _ _ _ l least start _ _ _ _ ds _ hl hr hh hld hrd hhd hcap).mono ?_
  rintro e w1 ⟨A1, c1, A2, c2, rfl, ho1, ho2, hb1⟩
  generalize lateOk n l least start ds = ok at *
  go_wp2_with fail
  go_ret2
  exact ⟨_, _, rfl, ho1, hb1⟩
set_option maxHeartbeats 2000000 in
theorem iLeave_any (n : Int) (A : Option Addr) (c lo hi : Nat) (l : List T3) (least start : Int) (B : Option Addr) (d lo' hi' : Nat) (ds : List Int) (w : World) (hl : l.length ≤ 1048576) (hr : Rd w lo hi A (flat3 l)) (hh : hi ≤ w.heap.size) (hld : ds.length ≤ 1048576) (hrd : Rd w lo' hi' B (ints ds)) (hhd : hi' ≤ w.heap.size) (hcap : l.length ≤ c) :
    Calls Try.prog 41 #[.int .i64 n, .slice A l.length c, .int .i64 least, .int .i64 start, .slice B ds.length d] w (RetLB 3 (leaL n l least start ds) (lateOk n l least start ds) w) := by
  go_enter Try.func41, Try.ntmps41
  go_wp2_with fail
  refine (both_any n _ _ _ _ l least start _ _ _ _ ds _ hl hr hh hld hrd hhd hcap).mono ?_
  rintro e w1 ⟨A1, c1, A2, c2, rfl, ho1, ho2, hb1⟩
  generalize lateOk n l least start ds = ok at *
  go_wp2_with fail
  go_ret2
  exact ⟨_, _, rfl, ho2, hb1⟩
set_option maxHeartbeats 2000000 in
theorem iEnd_any (n : Int) (A : Option Addr) (c lo hi : Nat) (l : List T3) (least start : Int) (B : Option Addr) (d lo' hi' : Nat) (ds : List Int) (w : World) (hl : l.length ≤ 1048576) (hr : Rd w lo hi A (flat3 l)) (hh : hi ≤ w.heap.size) (hld : ds.length ≤ 1048576) (hrd : Rd w lo' hi' B (ints ds)) (hhd : hi' ≤ w.heap.size) (hcap : l.length ≤ c) :
    Calls Try.prog 35 #[.int .i64 n, .slice A l.length c, .int .i64 least, .int .i64 start, .slice B ds.length d] w fun e w' => e = .returned (.int .i64 (endV n l least start ds)) ∧ Below w.heap.size w w' := by
  cases hok : lateOk n l least start ds
  · have HOK := Lib.hid hok
    have HL := Lib.hid (show endV n l least start ds = -1 by simp [endV, hok])
    clear hok
    go_enter Try.func35, Try.ntmps35
    go_wp2_with fail
    refine (iArrive_any n _ _ _ _ l least start _ _ _ _ ds _ hl hr hh hld hrd hhd hcap).mono ?_
    rintro e w1 ⟨A1, c1, rfl, ho1, hb1⟩
    rw [HOK.out]
    go_wp2_with fail
    go_ret
    exact ⟨ret_int HL.out.symm, hb1⟩
  · have HOK := Lib.hid hok
    have HA := Lib.hid (show arrL n l least start ds = arrF l least start ds by simp [arrL, hok])
    have HL := Lib.hid (show endV n l least start ds = lastD (arrF l least start ds) by simp [endV, hok])
    obtain ⟨hbd, hlen0, hlen8⟩ := arrF_bd hok
    have HBD := Lib.hid hbd
    clear hok hbd
    go_enter Try.func35, Try.ntmps35
    go_wp2_with fail
    refine (iArrive_any n _ _ _ _ l least start _ _ _ _ ds _ hl hr hh hld hrd hhd hcap).mono ?_
    rintro e w1 ⟨A1, c1, rfl, ho1, hb1⟩
    rw [HOK.out, HA.out]
    rw [HA.out] at ho1
    generalize arrF l least start ds = L at *
    have hrd1 := Rd.of_own ho1
    clear ho1
    obtain ⟨b, off, rfl, _, _, c0⟩ := hrd1.at1 (L.length - 1) (by omega)
    have hlast := Lib.hid (show lastD L = L[L.length - 1] by unfold lastD; rw [List.getD_eq_getElem?_getD, List.getElem?_eq_getElem (by omega)]; rfl)
    have HX := Lib.hid (show L[L.length - 1] = L[L.length - 1] from rfl)
    generalize L[L.length - 1] = x at *
    have hcast : ((L.length : Int) - 1).toNat = L.length - 1 := by omega
    go_wp2_with fail
    go_ret
    exact ⟨ret_int (by rw [HL.out, hlast.out]), hb1⟩
set_option maxHeartbeats 2000000 in
theorem iSum_any (n : Int) (A : Option Addr) (c lo hi : Nat) (l : List T3) (least start : Int) (B : Option Addr) (d lo' hi' : Nat) (ds : List Int) (w : World) (hl : l.length ≤ 1048576) (hr : Rd w lo hi A (flat3 l)) (hh : hi ≤ w.heap.size) (hld : ds.length ≤ 1048576) (hrd : Rd w lo' hi' B (ints ds)) (hhd : hi' ≤ w.heap.size) (hcap : l.length ≤ c) :
    Calls Try.prog 45 #[.int .i64 n, .slice A l.length c, .int .i64 least, .int .i64 start, .slice B ds.length d] w fun e w' => e = .returned (.int .i64 (sumV n l least start ds)) ∧ Below w.heap.size w w' := by
  cases hok : lateOk n l least start ds
  · have HOK := Lib.hid hok
    have HL := Lib.hid (show sumV n l least start ds = -1 by simp [sumV, hok])
    clear hok
    go_enter Try.func45, Try.ntmps45
    go_wp2_with fail
    refine (iArrive_any n _ _ _ _ l least start _ _ _ _ ds _ hl hr hh hld hrd hhd hcap).mono ?_
    rintro e w1 ⟨A1, c1, rfl, ho1, hb1⟩
    rw [HOK.out]
    go_wp2_with fail
    go_ret
    exact ⟨ret_int HL.out.symm, hb1⟩
  · have HOK := Lib.hid hok
    have HA := Lib.hid (show arrL n l least start ds = arrF l least start ds by simp [arrL, hok])
    have HL := Lib.hid (show sumV n l least start ds = sumI (arrF l least start ds) by simp [sumV, hok])
    obtain ⟨hbd, hlen0, hlen8⟩ := arrF_bd hok
    have HBD := Lib.hid hbd
    clear hok hbd
    go_enter Try.func45, Try.ntmps45
    go_wp2_with fail
    refine (iArrive_any n _ _ _ _ l least start _ _ _ _ ds _ hl hr hh hld hrd hhd hcap).mono ?_
    rintro e w1 ⟨A1, c1, rfl, ho1, hb1⟩
    rw [HOK.out, HA.out]
    rw [HA.out] at ho1
    generalize arrF l least start ds = L at *
    have hrd1 := Rd.of_own ho1
    clear ho1
    go_wp2_with fail
    go_loop [13, 29] (fun s i => ∃ (k : Nat) (sm : Int), k ≤ L.length ∧ i = .int .i64 k ∧ s = .int .i64 sm ∧ Hid (sm = sumI (L.take k)) ∧ 0 ≤ sm ∧ sm ≤ k * 2400) (fun _ i => L.length - (intOf i).toNat)
    case atStart => exact ⟨0, 0, by omega, rfl, rfl, by simp [Hid, sumI], by omega, by omega⟩
    case round =>
      obtain ⟨k, sm, hk2, rfl, rfl, H, hs1, hs2⟩ := hrel
      by_cases hlt : k < L.length
      · obtain ⟨b', off', rfl, _, _, c0⟩ := hrd1.at1 k hlt
        have hq := HBD.out L[k] (List.getElem_mem hlt)
        have hst := Lib.hid (show sm + L[k] = sumI (L.take (k + 1)) by rw [List.take_succ_eq_append_getElem hlt, sumI_snoc, H.out])
        generalize L[k] = x at *
        go_wp2
        go_round
        case rel => exact ⟨k + 1, _, by omega, by go_num, rfl, hst, by omega, by omega⟩
        case measure => simp [intOf]; omega
      · have hfin := Lib.hid (show sumI L = sm by rw [H.out, List.take_of_length_le (by omega)])
        go_wp2
        go_ret
        exact ⟨ret_int (by rw [HL.out, hfin.out]), hb1⟩

end Go.Proofs.Yteceohdchknbbaa
