/-
  For every input the law FnPostWay returns true: a way is a journey that arrives.
-/
import Derived.Test.YtdiichfdffhdaaaWayLaws2
import Derived.Test.YtdiichfdffhdaaaNetArgs
import Derived.Test.YtdiichfdffhdaaaWayS
import Derived.Test.YtdiichfdffhdaaaWayR
import Derived.Test.YtdiichfdffhdaaaJourneyE
import Derived.Test.YtdiichfdffhdaaaFewS
import Derived.Test.YtdiichfdffhdaaaSame
import Derived.Test.YtdiichfdffhdaaaClass
namespace Go.Proofs.Ytdiichfdffhdaaa
open Go.ChangeShapes Go.WideShapes Go.ChangeAt Go.RowKit

set_option maxRecDepth 100000 in
set_option maxHeartbeats 4000000 in
theorem postWay_any (A0 : Option Addr) (c0 n0 : Nat) (bs0 : Nat → Int) (w : World) (hm0 : n0 ≤ maxLen) (hb0 : Byt w w.heap.size A0 n0 bs0) (hc0 : n0 ≤ c0) :
    Calls Try.prog 4 #[.slice A0 n0 c0] w fun e w' => e = .returned (.bool true) ∧ Below w.heap.size w w' := by
  unfold maxLen at hm0
  by_cases hbig0 : (1048576 : Int) < n0
  · go_enter Try.func4, Try.ntmps4
    go_wp2_with fail
    go_ret
    exact ⟨rfl, Below.refl _ _⟩
  have hn0 : n0 ≤ 1048576 := by omega
  have hni0 : (n0 : Int) ≤ 1048576 := by omega
  clear hm0
  go_enter Try.func4, Try.ntmps4
  go_wp2_with fail
  refine (dWay_any A0 n0 c0 bs0 _ hb0 hn0 hc0).mono ?_
  rintro e w1 ⟨n, A, c, fr, g, t, ch, net, rfl, hN1, hN2, ht, hch, r_N, hb⟩
  obtain ⟨ht0, ht1⟩ := ht
  obtain ⟨hch0, hch1⟩ := hch
  obtain ⟨a, ha⟩ : ∃ a, wayV n net fr g t ch = a := ⟨_, rfl⟩
  have HA := Lib.hid ha
  have hal : a.length ≤ 1048576 := by rw [← ha]; exact wayV_len
  clear ha
  cases hok : wayOk n net fr g t ch
  · have HOK := Lib.hid hok
    clear hok
    go_wp2_with fail
    refine (iPostWay_any n _ _ _ net fr g t ch _ (Nat.le_trans r_N.size (by omega)) r_N.2.2 (Nat.le_refl _)).mono ?_
    rintro e w2 ⟨P2, d2, rfl, o_a, hs⟩
    replace r_N := r_N.below hs
    replace hb := hb.trans (hs.mono hb.size)
    clear hs
    rw [HA.out] at o_a ⊢
    rw [HOK.out]
    go_wp2_with fail
    refine (sPostWay_any n _ _ _ net fr g t ch _ (Nat.le_trans r_N.size (by omega)) r_N.2.2 (Nat.le_refl _)).mono ?_
    rintro e w3 ⟨P3, d3, rfl, o_a2, hs⟩
    replace r_N := r_N.below hs
    replace o_a := own_below o_a hs
    replace hb := hb.trans (hs.mono hb.size)
    clear hs
    rw [HA.out] at o_a2 ⊢
    rw [HOK.out]
    go_wp2_with fail
    refine (sameRides_any _ _ _ _ _ _ _ _ a a _ hal (Rd.of_own o_a) (Rd.of_own o_a2)).mono ?_
    rintro e w4 ⟨rfl, qs, hqs⟩
    have hs : Below w3.heap.size w3 w4 := by rw [hqs]; exact below_drewN (Below.refl _ _) qs
    clear hqs
    replace r_N := r_N.below hs
    replace o_a := own_below o_a hs
    replace o_a2 := own_below o_a2 hs
    replace hb := hb.trans (hs.mono hb.size)
    clear hs
    rw [show decide (a = a) = true from decide_eq_true rfl]
    go_wp2_with fail
    refine (sameRides_any _ _ _ _ _ _ _ _ a a _ hal (Rd.of_own o_a) (Rd.of_own o_a2)).mono ?_
    rintro e w5 ⟨rfl, qs, hqs⟩
    have hs : Below w4.heap.size w4 w5 := by rw [hqs]; exact below_drewN (Below.refl _ _) qs
    clear hqs
    replace r_N := r_N.below hs
    replace o_a := own_below o_a hs
    replace o_a2 := own_below o_a2 hs
    replace hb := hb.trans (hs.mono hb.size)
    clear hs
    rw [show decide (a = a) = true from decide_eq_true rfl]
    go_wp2_with fail
    go_ret
    exact ⟨rfl, by (repeat (first | exact Below.refl _ _ | assumption | apply below_alloc | apply below_drewN | apply Below.drew | refine Below.setCell ?_ (by simp; try omega) _))⟩
  have HOK := Lib.hid hok
  clear hok
  go_wp2_with fail
  refine (iPostWay_any n _ _ _ net fr g t ch _ (Nat.le_trans r_N.size (by omega)) r_N.2.2 (Nat.le_refl _)).mono ?_
  rintro e w2 ⟨P2, d2, rfl, o_a, hs⟩
  replace r_N := r_N.below hs
  replace hb := hb.trans (hs.mono hb.size)
  clear hs
  rw [HA.out] at o_a ⊢
  rw [HOK.out]
  go_wp2_with fail
  refine (sPostWay_any n _ _ _ net fr g t ch _ (Nat.le_trans r_N.size (by omega)) r_N.2.2 (Nat.le_refl _)).mono ?_
  rintro e w3 ⟨P3, d3, rfl, o_a2, hs⟩
  replace r_N := r_N.below hs
  replace o_a := own_below o_a hs
  replace hb := hb.trans (hs.mono hb.size)
  clear hs
  rw [HA.out] at o_a2 ⊢
  rw [HOK.out]
  go_wp2_with fail
  refine (sameRides_any _ _ _ _ _ _ _ _ a a _ hal (Rd.of_own o_a) (Rd.of_own o_a2)).mono ?_
  rintro e w4 ⟨rfl, qs, hqs⟩
  have hs : Below w3.heap.size w3 w4 := by rw [hqs]; exact below_drewN (Below.refl _ _) qs
  clear hqs
  replace r_N := r_N.below hs
  replace o_a := own_below o_a hs
  replace o_a2 := own_below o_a2 hs
  replace hb := hb.trans (hs.mono hb.size)
  clear hs
  rw [show decide (a = a) = true from decide_eq_true rfl]
  clear o_a2
  have LW := way_law HOK.out
  rw [HA.out] at LW
  obtain ⟨lw1, lw2⟩ := LW
  by_cases hz : a.length = 0
  · have dz : ((a.length : Int) == 0) = true := by simp [hz]
    have q1 : (fr == g) = true := by rw [beq_iff_eq]; exact lw1.1 (List.eq_nil_of_length_eq_zero hz)
    clear hz lw1 lw2
    go_wp2_with fail
    go_ret
    exact ⟨rfl, by (repeat (first | exact Below.refl _ _ | assumption | apply below_alloc | apply below_drewN | apply Below.drew | refine Below.setCell ?_ (by simp; try omega) _))⟩
  have dz : ((a.length : Int) == 0) = false := by simp [hz]
  have hp : 0 < a.length := by omega
  obtain ⟨j1, j2, j3, j4, hr0, hq0, hq1, hq2⟩ := lw2 hp
  have HNB := Lib.hid (journey_and j2).1
  obtain ⟨X, hX⟩ : ∃ X, X = postArr n net fr g t ch := ⟨_, rfl⟩
  rw [← hX] at j4
  have HX := Lib.hid hX
  clear hX
  obtain ⟨F, hF⟩ : ∃ F, F = fewV n net fr g t ch := ⟨_, rfl⟩
  rw [← hF] at hq2
  have HF := Lib.hid hF
  clear hF
  have J1 := Lib.hid j1
  have J2 := Lib.hid j2
  have J3 := Lib.hid j3
  have J4 := Lib.hid j4
  clear hz lw1 lw2 j1 j2 j3 j4
  have RA0 := Rd.of_own o_a
  obtain ⟨bb, ob, hPb, -, hbb', c0, c1, c2⟩ := RA0.at3 0 hp
  subst hPb
  simp only [Nat.zero_mul, Nat.add_zero] at c0 c1 c2
  have hp2 : (0 : Int) < (a.length : Int) := by omega
  obtain ⟨r, hr⟩ : ∃ r, r = a[0] := ⟨_, rfl⟩
  rw [← hr] at c0 c1 c2 hr0 hq0 hq1
  have HRR := Lib.hid hr
  obtain ⟨xc, xf, xt, x1, x2, x3, x4, x5, x8, sx1, -⟩ := ride_get HNB.out hr0
  obtain ⟨bn, on, Bx, ccx, hA, -, hbn, hx0, hxc, hxr⟩ := r_N.2.2 r.1.toNat xc
  subst hA
  obtain ⟨bx, ox, hBx, -, hbx, g0, g1, g2⟩ := hxr.at3 r.2.1.toNat xf
  subst hBx
  obtain ⟨mx, hmx⟩ : ∃ mx, mx = net[r.1.toNat].length := ⟨_, rfl⟩
  obtain ⟨sx, hsx⟩ : ∃ sx, sx = net[r.1.toNat][r.2.1.toNat] := ⟨_, rfl⟩
  rw [← hmx] at hx0 x5 x8 hxc
  rw [← hsx] at g0 g1 g2 sx1
  have HSX := Lib.hid (show fromOf net r = sx from sx1)
  have y1 : r.2.1 < (mx : Int) := by omega
  clear hr sx1 hmx hsx xf xt hxr xc c2
  go_wp2_with fail
  go_region_held3 (fun w' => w'.cell? ⟨bb, ob, none⟩ = some (.int .i64 r.1) ∧ w'.cell? ⟨bb, ob + 1, none⟩ = some (.int .i64 r.2.1) ∧ w'.cell? ⟨bn, on + r.1.toNat, none⟩ = some (.slice (some ⟨bx, ox, none⟩) mx ccx) ∧ w'.cell? ⟨bx, ox + r.2.1.toNat * 3, none⟩ = some (.int .i64 sx.1) ∧ w'.cell? ⟨bx, ox + r.2.1.toNat * 3 + 1, none⟩ = some (.int .i64 sx.2.1) ∧ w'.cell? ⟨bx, ox + r.2.1.toNat * 3 + 2, none⟩ = some (.int .i64 sx.2.2)) (simp (maxDischargeDepth := 8) [*, World.cell?_alloc_some, World.cell?_setCell_far]) (fail)
  go_wp2_with fail
  refine Calls.at_world ?_
  intro wF hwF
  have hbF : Below w4.heap.size w4 wF := by rw [hwF]; (repeat (first | exact Below.refl _ _ | assumption | apply below_alloc | apply below_drewN | apply Below.drew | refine Below.setCell ?_ (by simp; try omega) _))
  have cF0 : wF.cell? ⟨w4.heap.size, 0, none⟩ = some (.int .i64 sx.1) := by rw [hwF]; simp [go_sem]
  have cF2 : wF.cell? ⟨w4.heap.size, 2, none⟩ = some (.int .i64 sx.2.2) := by rw [hwF]; simp [go_sem]
  have hzF : w4.heap.size < wF.heap.size := by rw [hwF]; simp
  clear hwF g0 g1 g2 c0 c1 hx0
  rw [HSX.out] at hq0 hq1
  replace r_N := r_N.below hbF
  have r_a := (RA0.below hbF (Nat.le_refl _)).more (Nat.zero_le _) hbF.size
  replace hb := hb.trans (hbF.mono hb.size)
  clear hbF o_a RA0
  refine (iJourneyEnd n _ _ _ _ net _ _ _ _ a ch _ (Nat.le_trans r_N.size (by omega)) r_N.2.2 (Nat.le_refl _) hal r_a (Nat.le_refl _)).mono ?_
  rintro e w6 ⟨rfl, hs⟩
  replace r_N := r_N.below hs
  replace r_a := (r_a.below hs (Nat.le_refl _)).more (Nat.le_refl _) hs.size
  replace hb := hb.trans (hs.mono hb.size)
  replace cF0 := (hs.cell (p := ⟨w4.heap.size, 0, none⟩) hzF).trans cF0
  replace cF2 := (hs.cell (p := ⟨w4.heap.size, 2, none⟩) hzF).trans cF2
  replace hzF := Nat.lt_of_lt_of_le hzF hs.size
  clear hs
  rw [J1.out, J3.out, J4.out]
  go_wp2_with fail
  refine (iJourneyValid n _ _ _ _ net _ _ _ _ a ch _ (Nat.le_trans r_N.size (by omega)) r_N.2.2 (Nat.le_refl _) hal r_a (Nat.le_refl _)).mono ?_
  rintro e w7 ⟨rfl, hs⟩
  replace r_N := r_N.below hs
  replace r_a := (r_a.below hs (Nat.le_refl _)).more (Nat.le_refl _) hs.size
  replace hb := hb.trans (hs.mono hb.size)
  replace cF0 := (hs.cell (p := ⟨w4.heap.size, 0, none⟩) hzF).trans cF0
  replace cF2 := (hs.cell (p := ⟨w4.heap.size, 2, none⟩) hzF).trans cF2
  replace hzF := Nat.lt_of_lt_of_le hzF hs.size
  clear hs
  rw [J2.out]
  have b1 : (sx.1 == fr) = true := by rw [hq0]; simp
  have b2 : decide (t ≤ sx.2.2) = true := decide_eq_true hq1
  have b3 : (g == g) = true := by simp
  have b4 : (X == X) = true := by simp
  have b5 : decide (F ≤ (a.length : Int)) = true := decide_eq_true hq2
  go_wp2_with fail
  refine (iPostArrive_any n _ _ _ net fr g t ch _ (Nat.le_trans r_N.size (by omega)) r_N.2.2 (Nat.le_refl _)).mono ?_
  rintro e w8 ⟨rfl, hs⟩
  replace r_N := r_N.below hs
  replace r_a := (r_a.below hs (Nat.le_refl _)).more (Nat.le_refl _) hs.size
  replace hb := hb.trans (hs.mono hb.size)
  clear hs
  rw [← HX.out]
  go_wp2_with fail
  refine (iPostFewest_any n _ _ _ net fr g t ch _ (Nat.le_trans r_N.size (by omega)) r_N.2.2 (Nat.le_refl _)).mono ?_
  rintro e w9 ⟨rfl, hs⟩
  replace r_N := r_N.below hs
  replace r_a := (r_a.below hs (Nat.le_refl _)).more (Nat.le_refl _) hs.size
  replace hb := hb.trans (hs.mono hb.size)
  clear hs
  rw [← HF.out]
  go_wp2_with fail
  go_ret
  exact ⟨rfl, by (repeat (first | exact Below.refl _ _ | assumption | apply below_alloc | apply below_drewN | apply Below.drew | refine Below.setCell ?_ (by simp; try omega) _))⟩

set_option maxRecDepth 100000 in
theorem postWay_lifted (os : Os) (started : os.Started) (H : Type) (enc : TypeId × Value → H) :
    ReturnsInHanded {} Try.checked os 4 .any (Rows.fnPostWaySpec.pre6 enc Try.prog Try.f4 Rows.fnPostWayRow.domain false) (Rows.fnPostWaySpec.post enc Try.prog Try.f4 false true false false) := by
  refine returnsInHanded_of_change (C := Try.checked) prog_own started (by kernel_rfl) Try.func4
    (ChangeSpec.witness6 (enc := enc) (C := Try.checked) false ⟨#[], #[.slice none 0 0], []⟩ 8 (by kernel_rfl) (by kernel_rfl) (by kernel_rfl) (by kernel_rfl)) ?_
  intro W base args ds gs before hval0 hW hcnd _
  have hval : ∀ (j : Nat) t v, Try.f4.params[j]? = some t → args[j]? = some v → Value.okWide Try.prog W .any base t v := hval0
  have hW' := hW
  obtain ⟨p, q, hA0, hV, rfl, hfz, hnd⟩ := hW
  have hA : DataW.TrodAll enc Try.prog W 0 (fun _ => true) true Try.f4.params.toList args.toList ds p := hA0
  rw [Try.params4] at hA hval
  obtain ⟨v0, vs0, d0, ds0, p0, q0, hargs, rfl, rfl, h0, r0⟩ := trodAll_cons hA
  obtain ⟨rfl, rfl, rfl⟩ := trodAll_nil r0
  obtain rfl : args = #[v0] := by cases args; simp_all
  obtain ⟨rfl, rfl⟩ := trodVars_none hV
  obtain ⟨a0, len0, cap0, rfl⟩ := okWide_slice Try.underlying22 (hval 0 22 v0 rfl rfl)
  have k0 := h0
  have lt0 : ∀ x ∈ p0, x.block < W.heap.size := by obtain ⟨m, hm⟩ := k0; exact DataW.trod_lt m _ _ _ hm
  obtain ⟨fuel0, hf0⟩ := h0
  obtain ⟨bs0, hm0, hb0, hc0⟩ := open_b1 Try.underlying22 Try.underlying5 (by kernel_rfl) hf0
  clear hA0 hval0
  refine (postWay_any a0 cap0 len0 bs0 W hm0 hb0 hc0).mono fun e W' ⟨he, bel⟩ => ?_
  subst he
  exact ⟨_, rfl, _, _, _, [], _, [], hW', trodAll_mk1 (shut_bool Try.underlying4 _), (trodAll_cons_mk (Below.trod prog_laidOut (by kernel_rfl) (of_decide_eq_true (by kernel_rfl)) k0 bel lt0) trodAll_mk0), rfl, bel.frame _, fun h => by cases h⟩

theorem postWay_holds : Rows.FnPostWaySaid :=
  OpenClaim.holds_of_wide 4 Try.f4 rfl rfl rfl rfl rfl rfl rfl ⟨rfl, rfl, rfl, rfl, rfl⟩ rfl rfl rfl rfl rfl (by kernel_rfl) Try.func4 (by kernel_rfl)
    (of_decide_eq_true (by kernel_rfl)) (by unfold Func.isWrapper; first | (rw [if_pos (by decide +kernel)]; kernel_rfl) | (rw [if_neg (by decide +kernel)]; exact ⟨rfl, rfl⟩))
    (fun os started H enc _ => postWay_lifted os started H enc)

end Go.Proofs.Ytdiichfdffhdaaa
