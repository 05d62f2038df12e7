/-
  Contracts of the reference's tables: l7Ok, l7Ready, l7Table, PostTable, PostArrive.
-/
import Derived.Test.YtdiichfdffhdaaaPostMath
import Derived.Test.YtdiichfdffhdaaaOwn
import Derived.Test.YtdiichfdffhdaaaApart
import Derived.Deep.RegionHeld3
namespace Go.Proofs.Ytdiichfdffhdaaa
open Go.RowKit

set_option maxHeartbeats 2000000 in
theorem l7Ok_any (n : Int) (A : Option Addr) (c hi : Nat) (net : Net) (f t0 ch : Int) (w : World) (hl : netSize net ≤ 1048576) (hr : RdN w 0 hi A net) (hh : hi ≤ w.heap.size) :
    Calls Try.prog 71 #[.int .i64 n, .slice A net.length c, .int .i64 f, .int .i64 t0, .int .i64 ch] w fun e w' => e = .returned (.bool (postOk n net f t0 ch)) ∧ Below w.heap.size w w' := by
  go_enter Try.func71, Try.ntmps71
  go_wp2_with fail
  refine (sNetValid n _ _ _ _ net _ hl hr hh).mono ?_
  rintro e w1 ⟨rfl, hb1⟩
  cases hv : netB n net
  · have hno := Lib.hid (show postOk n net f t0 ch = false by simp [postOk, hv])
    clear hv
    go_wp2_with fail
    go_ret
    exact ⟨ret_bool hno.out.symm, hb1⟩
  have hn := (netB_and hv).1
  obtain ⟨hn1, hn2⟩ := hn
  have HV := Lib.hid hv
  clear hv
  go_wp2_with fail
  refine (l6In_any f 0 (n - 1) _).mono ?_
  rintro e wq ⟨rfl, rfl⟩
  cases hf : inB f 0 (n - 1)
  · have hno := Lib.hid (show postOk n net f t0 ch = false by simp [postOk, hf])
    clear hf
    go_wp2_with fail
    go_ret
    exact ⟨ret_bool hno.out.symm, hb1⟩
  have HF := Lib.hid hf
  clear hf
  go_wp2_with fail
  refine (l6In_any t0 0 10000 _).mono ?_
  rintro e wq ⟨rfl, rfl⟩
  cases ht : inB t0 0 10000
  · have hno := Lib.hid (show postOk n net f t0 ch = false by simp [postOk, ht])
    clear ht
    go_wp2_with fail
    go_ret
    exact ⟨ret_bool hno.out.symm, hb1⟩
  have HT := Lib.hid ht
  clear ht
  go_wp2_with fail
  refine (l6In_any ch 0 300 _).mono ?_
  rintro e wq ⟨rfl, rfl⟩
  have hres := Lib.hid (show postOk n net f t0 ch = inB ch 0 300 by simp [postOk, HV.out, HF.out, HT.out])
  go_wp2_with fail
  go_ret
  exact ⟨ret_bool hres.out.symm, hb1⟩

theorem rd_tg {w : World} {lo hi : Nat} {A : Option Addr} {T : List Int} (h : Rd w lo hi A (ints T)) {v : Int} (h0 : 0 ≤ v) (h1 : v.toNat < T.length) : ∃ b off, A = some ⟨b, off, none⟩ ∧ b < hi ∧ w.cell? ⟨b, off + v.toNat, none⟩ = some (.int .i64 (tg T v)) := by
  obtain ⟨b, off, e, _, h2, hc⟩ := h.at1 v.toNat h1
  exact ⟨b, off, e, h2, by rw [tg_get h0 h1]; exact hc⟩
set_option maxHeartbeats 2000000 in
theorem l7Ready_any (A : Option Addr) (c lo hi : Nat) (T : List Int) (f : Int) (s : T3) (ch : Int) (w : World) (hr : Rd w lo hi A (ints T)) (hh : hi ≤ w.heap.size) (h0 : 0 ≤ s.1) (h1 : s.1.toNat < T.length) (hlT : T.length ≤ 100) (hb : ∀ x ∈ T, -1 ≤ x ∧ x ≤ 10000) (hc0 : 0 ≤ ch) (hc1 : ch ≤ 300) :
    Calls Try.prog 88 #[.slice A T.length c, .int .i64 f, .agg #[.int .i64 s.1, .int .i64 s.2.1, .int .i64 s.2.2], .int .i64 ch] w fun e w' => e = .returned (.bool (rdyB T f ch s)) ∧ Below w.heap.size w w' := by
  obtain ⟨b, off, rfl, hbh, hcl⟩ := rd_tg hr h0 h1
  have htg : -1 ≤ tg T s.1 ∧ tg T s.1 ≤ 10000 := by rw [tg_get h0 h1]; exact hb _ (List.getElem_mem h1)
  have hlt : s.1 < (T.length : Int) := by omega
  have hbw : b < w.heap.size := by omega
  have HR := Lib.hid (show rdyB T f ch s = decide (0 ≤ tg T s.1 ∧ tg T s.1 + chg f ch s.1 ≤ s.2.2) from rfl)
  clear hb h1
  generalize tg T s.1 = x at *
  generalize T.length = m at *
  obtain ⟨x0, x1⟩ := htg
  by_cases hx : x < 0
  · have hres := Lib.hid (show rdyB T f ch s = false by rw [HR.out]; exact decide_eq_false (by omega))
    go_enter Try.func88, Try.ntmps88
    go_wp2
    go_ret
    exact ⟨ret_bool hres.out.symm, by (repeat (first | exact Below.refl _ _ | assumption | apply below_alloc | apply below_drewN | apply Below.drew | refine Below.setCell ?_ (by simp; try omega) _))⟩
  · have hx0 : 0 ≤ x := by omega
    clear hx
    by_cases hs : s.1 = f
    · have hres := Lib.hid (show rdyB T f ch s = decide (x ≤ s.2.2) by rw [HR.out, chg, if_pos hs, decide_eq_decide]; omega)
      have hd : (s.1 == f) = true := by simp [hs]
      clear hs
      go_enter Try.func88, Try.ntmps88
      go_wp2
      go_quiet (fail)
      go_wp2
      go_ret
      exact ⟨ret_bool hres.out.symm, by (repeat (first | exact Below.refl _ _ | assumption | apply below_alloc | apply below_drewN | apply Below.drew | refine Below.setCell ?_ (by simp; try omega) _))⟩
    · have hres := Lib.hid (show rdyB T f ch s = decide (x + ch ≤ s.2.2) by rw [HR.out, chg, if_neg hs, decide_eq_decide]; omega)
      have hd : (s.1 == f) = false := by simp [hs]
      have hw1 : IntKind.i64.wrap (x + ch) = x + ch := IntWalk.i64_in _ (by omega)
      clear hs
      go_enter Try.func88, Try.ntmps88
      go_wp2
      go_quiet (fail)
      go_wp2
      go_ret
      exact ⟨ret_bool hres.out.symm, by (repeat (first | exact Below.refl _ _ | assumption | apply below_alloc | apply below_drewN | apply Below.drew | refine Below.setCell ?_ (by simp; try omega) _))⟩

end Go.Proofs.Ytdiichfdffhdaaa
