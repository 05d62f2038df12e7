/-
  Contracts of ConnectMade, ConnectLate and ConnectMost, the reference's and the program's.
-/
import Derived.Test.YteceohdchknbbaaConnect
namespace Go.Proofs.Yteceohdchknbbaa
open Go.RowKit

def madeB (n : Int) (a b : List T3) (t late change most : Int) : Bool := iwOk n a b t late change most && decide (waitV n a b t late change ≤ most)
def lateV (n : Int) (a b : List T3) (t late change most : Int) : Int := if madeB n a b t late change most then max 0 (waitV n a b t late change) else 0
def mostV (n : Int) (a b : List T3) (t change most : Int) : Int := if madeB n a b t 0 change most then min 300 (most - waitV n a b t 0 change) else -1
theorem most_bd {n : Int} {a b : List T3} {t late change most : Int} (h : iwOk n a b t late change most = true) : 0 ≤ most ∧ most ≤ 300 := by
  simp only [iwOk, Bool.and_eq_true] at h; exact of_inB h.2
theorem waitV_late {n : Int} {a b : List T3} {t late change : Int} (h : waitOk n a b t 0 change = true) (hl : inB late 0 300 = true) : waitOk n a b t late change = true ∧ waitV n a b t late change = waitV n a b t 0 change + late := by
  have h2 : waitOk n a b t late change = true := by simp only [waitOk, Bool.and_eq_true] at h ⊢; exact ⟨⟨h.1.1, hl⟩, h.2⟩
  refine ⟨h2, ?_⟩
  rw [waitV, waitV, if_pos h, if_pos h2]; omega
theorem waitOk_zero {n : Int} {a b : List T3} {t late change : Int} (h : waitOk n a b t late change = true) : waitOk n a b t 0 change = true ∧ inB late 0 300 = true := by
  simp only [waitOk, Bool.and_eq_true] at h ⊢; exact ⟨⟨⟨h.1.1, by decide⟩, h.2⟩, h.1.2⟩
/-- A connection is made just where the lateness is at most the most. -/
theorem madeB_iff {n : Int} {a b : List T3} {t late change most : Int} : madeB n a b t late change most = true ↔ 0 ≤ late ∧ late ≤ mostV n a b t change most := by
  simp only [madeB, mostV, Bool.and_eq_true, decide_eq_true_eq, iwOk]
  constructor
  · rintro ⟨⟨h1, h2⟩, h3⟩
    obtain ⟨h4, h5⟩ := waitOk_zero h1
    have h6 := waitV_late h4 h5
    have h7 := of_inB h5
    rw [if_pos ⟨⟨h4, h2⟩, by omega⟩]
    omega
  · rintro ⟨h1, h2⟩
    split at h2
    · rename_i hh
      obtain ⟨⟨h4, h5⟩, h6⟩ := hh
      have h7 : inB late 0 300 = true := inB_true (by omega)
      have h8 := waitV_late h4 h7
      exact ⟨⟨h8.1, h5⟩, by omega⟩
    · omega

section
variable (n : Int) (A B : Option Addr) (c d lo hi lo' hi' : Nat) (a b : List T3) (t late change most : Int) (w : World) (hla : a.length ≤ 1048576) (hlb : b.length ≤ 1048576) (hra : Rd w lo hi A (flat3 a)) (hha : hi ≤ w.heap.size) (hrb : Rd w lo' hi' B (flat3 b)) (hhb : hi' ≤ w.heap.size)
set_option maxHeartbeats 1000000 in
include hla hlb hra hha hrb hhb in
theorem sMade_any :
    Calls Try.prog 23 #[.int .i64 n, .slice A a.length c, .slice B b.length d, .int .i64 t, .int .i64 late, .int .i64 change, .int .i64 most] w fun e w' => e = .returned (.bool (madeB n a b t late change most)) ∧ Below w.heap.size w w' := by
  have hM := Lib.hid (show madeB n a b t late change most = (waitOk n a b t late change && inB most 0 300 && decide (waitV n a b t late change ≤ most)) from rfl)
  go_enter Try.func23, Try.ntmps23
  go_wp2_with fail
  refine (sWait_any n _ _ _ _ _ _ _ _ a b t late change _ hla hlb hra hha hrb hhb).mono ?_
  rintro e w1 ⟨rfl, hb1⟩
  obtain ⟨ok, hok⟩ : ∃ ok, ok = waitOk n a b t late change := ⟨_, rfl⟩
  obtain ⟨v, hv0⟩ : ∃ v, v = waitV n a b t late change := ⟨_, rfl⟩
  rw [← hok, ← hv0]
  have HOK := Lib.hid hok
  have HVV := Lib.hid hv0
  clear hok hv0
  cases ok
  · go_wp2_with fail
    go_ret
    exact ⟨ret_bool (by rw [hM.out, ← HOK.out]; rfl), hb1⟩
  · go_wp2_with fail
    refine (l6In_any _ _ _ _).mono ?_
    rintro e w2 ⟨rfl, rfl⟩
    cases h5 : inB most 0 300
    · go_wp2_with fail
      go_ret
      exact ⟨ret_bool (by rw [hM.out, ← HOK.out, h5]; rfl), hb1⟩
    · go_wp2_with fail
      go_ret
      exact ⟨ret_bool (by rw [hM.out, ← HOK.out, ← HVV.out, h5]; simp), hb1⟩
set_option maxHeartbeats 1000000 in
include hla hlb hra hha hrb hhb in
theorem iMade_any :
    Calls Try.prog 22 #[.int .i64 n, .slice A a.length c, .slice B b.length d, .int .i64 t, .int .i64 late, .int .i64 change, .int .i64 most] w fun e w' => e = .returned (.bool (madeB n a b t late change most)) ∧ Below w.heap.size w w' := by
  have hM := Lib.hid (show madeB n a b t late change most = (iwOk n a b t late change most && decide (iwV n a b t late change most ≤ most)) by
    cases h : iwOk n a b t late change most <;> simp [madeB, iwV, h])
  go_enter Try.func22, Try.ntmps22
  go_wp2_with fail
  refine (iWait_any n _ _ _ _ _ _ _ _ a b t late change most _ hla hlb hra hha hrb hhb).mono ?_
  rintro e w1 ⟨rfl, hb1⟩
  obtain ⟨ok, hok⟩ : ∃ ok, ok = iwOk n a b t late change most := ⟨_, rfl⟩
  obtain ⟨v, hv0⟩ : ∃ v, v = iwV n a b t late change most := ⟨_, rfl⟩
  rw [← hok, ← hv0]
  have HOK := Lib.hid hok
  have HVV := Lib.hid hv0
  clear hok hv0
  cases ok
  · go_wp2_with fail
    go_ret
    exact ⟨ret_bool (by rw [hM.out, ← HOK.out]; rfl), hb1⟩
  · go_wp2_with fail
    go_ret
    exact ⟨ret_bool (by rw [hM.out, ← HOK.out, ← HVV.out]; simp), hb1⟩
set_option maxHeartbeats 1000000 in
include hla hlb hra hha hrb hhb in
theorem sLate_any :
    Calls Try.prog 29 #[.int .i64 n, .slice A a.length c, .slice B b.length d, .int .i64 t, .int .i64 late, .int .i64 change, .int .i64 most] w (RetIB (lateV n a b t late change most) (iwOk n a b t late change most) w) := by
  have hM := Lib.hid (show lateV n a b t late change most = if iwOk n a b t late change most = true ∧ waitV n a b t late change ≤ most then max 0 (waitV n a b t late change) else 0 by
    simp [lateV, madeB])
  have hO := Lib.hid (show iwOk n a b t late change most = (waitOk n a b t late change && inB most 0 300) from rfl)
  have hbd := waitV_bd n a b t late change
  go_enter Try.func29, Try.ntmps29
  go_wp2_with fail
  refine (sWait_any n _ _ _ _ _ _ _ _ a b t late change _ hla hlb hra hha hrb hhb).mono ?_
  rintro e w1 ⟨rfl, hb1⟩
  obtain ⟨ok, hok⟩ : ∃ ok, ok = waitOk n a b t late change := ⟨_, rfl⟩
  obtain ⟨v, hv0⟩ : ∃ v, v = waitV n a b t late change := ⟨_, rfl⟩
  rw [← hok, ← hv0]
  rw [← hv0] at hbd
  have HOK := Lib.hid hok
  have HVV := Lib.hid hv0
  clear hok hv0
  cases ok
  · go_wp2_with fail
    go_ret2
    exact retIB (by rw [hM.out, hO.out, ← HOK.out]; simp) (by rw [hO.out, ← HOK.out]; rfl) hb1
  · go_wp2_with fail
    refine (l6In_any _ _ _ _).mono ?_
    rintro e w2 ⟨rfl, rfl⟩
    cases h5 : inB most 0 300
    · go_wp2_with fail
      go_ret2
      exact retIB (by rw [hM.out, hO.out, ← HOK.out, h5]; simp) (by rw [hO.out, ← HOK.out, h5]; rfl) hb1
    · by_cases hv : v ≤ most
      · go_wp2_with fail
        all_goals (go_ret2; exact retIB (by rw [hM.out, hO.out, ← HOK.out, ← HVV.out, h5]; simp only [Bool.and_self, true_and]; split <;> omega) (by rw [hO.out, ← HOK.out, h5]; rfl) hb1)
      · have hv' : most < v := by omega
        go_wp2_with fail
        all_goals (go_ret2; exact retIB (by rw [hM.out, hO.out, ← HOK.out, ← HVV.out, h5]; simp only [Bool.and_self, true_and]; split <;> omega) (by rw [hO.out, ← HOK.out, h5]; rfl) hb1)
set_option maxHeartbeats 1000000 in
include hla hlb hra hha hrb hhb in
theorem iLate_any :
    Calls Try.prog 28 #[.int .i64 n, .slice A a.length c, .slice B b.length d, .int .i64 t, .int .i64 late, .int .i64 change, .int .i64 most] w (RetIB (lateV n a b t late change most) (iwOk n a b t late change most) w) := by
  have hM := Lib.hid (show lateV n a b t late change most = if iwOk n a b t late change most = true ∧ iwV n a b t late change most ≤ most then max 0 (iwV n a b t late change most) else 0 by
    cases h : iwOk n a b t late change most <;> simp [lateV, madeB, iwV, h])
  have hbd : -10000 ≤ iwV n a b t late change most ∧ iwV n a b t late change most ≤ 10600 := by
    have := waitV_bd n a b t late change
    unfold iwV; split <;> omega
  go_enter Try.func28, Try.ntmps28
  go_wp2_with fail
  refine (iWait_any n _ _ _ _ _ _ _ _ a b t late change most _ hla hlb hra hha hrb hhb).mono ?_
  rintro e w1 ⟨rfl, hb1⟩
  obtain ⟨ok, hok⟩ : ∃ ok, ok = iwOk n a b t late change most := ⟨_, rfl⟩
  obtain ⟨v, hv0⟩ : ∃ v, v = iwV n a b t late change most := ⟨_, rfl⟩
  rw [← hok, ← hv0]
  rw [← hv0] at hbd
  have HOK := Lib.hid hok
  have HVV := Lib.hid hv0
  clear hok hv0
  cases ok
  · go_wp2_with fail
    go_ret2
    exact retIB (by rw [hM.out, ← HOK.out]; simp) HOK.out.symm hb1
  · by_cases hv : v ≤ most
    · go_wp2_with fail
      all_goals (go_ret2; exact retIB (by rw [hM.out, ← HOK.out, ← HVV.out]; simp only [Bool.and_self, true_and]; split <;> omega) HOK.out.symm hb1)
    · have hv' : most < v := by omega
      go_wp2_with fail
      all_goals (go_ret2; exact retIB (by rw [hM.out, ← HOK.out, ← HVV.out]; simp only [Bool.and_self, true_and]; split <;> omega) HOK.out.symm hb1)
set_option maxHeartbeats 1000000 in
include hla hlb hra hha hrb hhb in
theorem sMost_any :
    Calls Try.prog 26 #[.int .i64 n, .slice A a.length c, .slice B b.length d, .int .i64 t, .int .i64 change, .int .i64 most] w fun e w' => e = .returned (.int .i64 (mostV n a b t change most)) ∧ Below w.heap.size w w' := by
  have hM := Lib.hid (show mostV n a b t change most = if (waitOk n a b t 0 change && inB most 0 300) = true ∧ waitV n a b t 0 change ≤ most then min 300 (most - waitV n a b t 0 change) else -1 by
    simp [mostV, madeB, iwOk])
  have hbd := waitV_bd n a b t 0 change
  go_enter Try.func26, Try.ntmps26
  go_wp2_with fail
  refine (sWait_any n _ _ _ _ _ _ _ _ a b t 0 change _ hla hlb hra hha hrb hhb).mono ?_
  rintro e w1 ⟨rfl, hb1⟩
  obtain ⟨ok, hok⟩ : ∃ ok, ok = waitOk n a b t 0 change := ⟨_, rfl⟩
  obtain ⟨v, hv0⟩ : ∃ v, v = waitV n a b t 0 change := ⟨_, rfl⟩
  rw [← hok, ← hv0]
  rw [← hv0] at hbd
  have HOK := Lib.hid hok
  have HVV := Lib.hid hv0
  clear hok hv0
  cases ok
  · go_wp2_with fail
    go_ret
    exact ⟨ret_int (by rw [hM.out, ← HOK.out]; simp), hb1⟩
  · go_wp2_with fail
    refine (l6In_any _ _ _ _).mono ?_
    rintro e w2 ⟨rfl, rfl⟩
    cases h5 : inB most 0 300
    · go_wp2_with fail
      go_ret
      exact ⟨ret_int (by rw [hM.out, ← HOK.out, h5]; simp), hb1⟩
    · have hm := of_inB h5
      obtain ⟨hm1, hm2⟩ := hm
      obtain ⟨hbd1, hbd2⟩ := hbd
      by_cases hv : v ≤ most
      · go_wp2_with fail
        all_goals (go_ret; exact ⟨ret_int (by rw [hM.out, ← HOK.out, ← HVV.out, h5]; simp only [Bool.and_self, true_and]; split <;> omega), hb1⟩)
      · have hv' : most < v := by omega
        go_wp2_with fail
        all_goals (go_ret; exact ⟨ret_int (by rw [hM.out, ← HOK.out, ← HVV.out, h5]; simp only [Bool.and_self, true_and]; split <;> omega), hb1⟩)
set_option maxHeartbeats 1000000 in
include hla hlb hra hha hrb hhb in
theorem iMost_any :
    Calls Try.prog 24 #[.int .i64 n, .slice A a.length c, .slice B b.length d, .int .i64 t, .int .i64 change, .int .i64 most] w fun e w' => e = .returned (.int .i64 (mostV n a b t change most)) ∧ Below w.heap.size w w' := by
  have hmax : mostV n a b t change most ≤ 300 := by unfold mostV; split <;> omega
  have hge : -1 ≤ mostV n a b t change most := by
    unfold mostV; split
    · rename_i h
      simp only [madeB, Bool.and_eq_true, decide_eq_true_eq] at h
      omega
    · omega
  go_enter Try.func24, Try.ntmps24
  go_wp2_with fail
  go_loopw [13] (fun i wr => ∃ k : Int, -1 ≤ k ∧ k ≤ 300 ∧ i = .int .i64 k ∧ mostV n a b t change most ≤ k ∧ Below w.heap.size w wr) (fun i _ => (intOf i + 1).toNat)
  case atStart => exact ⟨300, by omega, by omega, rfl, hmax, Below.refl _ _⟩
  case round =>
    obtain ⟨k, hk1, hk2, rfl, hk3, hb⟩ := hrel
    by_cases hk : 0 ≤ k
    · cases hm : madeB n a b t k change most
      · have hlt : mostV n a b t change most ≤ k - 1 := by
          rcases Int.lt_or_le (mostV n a b t change most) k with h | h
          · omega
          · rw [madeB_iff.2 ⟨hk, h⟩] at hm; cases hm
        have HM := Lib.hid hm
        clear hm
        go_wp2_with fail
        refine (iMade_any n _ _ _ _ _ _ _ _ a b t k change most _ hla hlb (hra.below hb hha) (Nat.le_trans hha hb.size) (hrb.below hb hhb) (Nat.le_trans hhb hb.size)).mono ?_
        rintro e w1 ⟨rfl, hb1⟩
        rw [HM.out]
        go_wp2_with fail
        go_roundw
        case rel => exact ⟨k - 1, by omega, by omega, rfl, hlt, hb.trans (hb1.mono hb.size)⟩
        case measure => simp [intOf]; omega
      · have heq := Lib.hid (show mostV n a b t change most = k by have := (madeB_iff.1 hm).2; omega)
        have HM := Lib.hid hm
        clear hm
        go_wp2_with fail
        refine (iMade_any n _ _ _ _ _ _ _ _ a b t k change most _ hla hlb (hra.below hb hha) (Nat.le_trans hha hb.size) (hrb.below hb hhb) (Nat.le_trans hhb hb.size)).mono ?_
        rintro e w1 ⟨rfl, hb1⟩
        rw [HM.out]
        go_wp2_with fail
        go_ret
        exact ⟨ret_int heq.out.symm, hb.trans (hb1.mono hb.size)⟩
    · have heq := Lib.hid (show mostV n a b t change most = -1 by omega)
      have hk' : k < 0 := by omega
      clear hge hmax hk3
      go_wp2_with fail
      go_ret
      exact ⟨ret_int heq.out.symm, hb⟩
end

end Go.Proofs.Yteceohdchknbbaa
