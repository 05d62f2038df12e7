/-
  For every input the law FnLateArrive returns true: lateness goes from stop to stop.
-/
import Derived.Test.YtjpjglpabnlobaaLateLaws2
import Derived.Test.YtjpjglpabnlobaaLawFns
import Derived.Test.YtjpjglpabnlobaaLateArgs
import Derived.Test.YtjpjglpabnlobaaLate2
namespace Go.Proofs.Ytjpjglpabnlobaa
open Go.ChangeShapes Go.WideShapes Go.ChangeAt Go.RowKit

set_option maxRecDepth 100000 in
set_option maxHeartbeats 4000000 in
theorem lateArrive_any (A0 : Option Addr) (c0 n0 : Nat) (bs0 : Nat → Int) (w : World) (hm0 : n0 ≤ maxLen) (hb0 : Byt w w.heap.size A0 n0 bs0) (hc0 : n0 ≤ c0) :
    Calls Try.prog 4 #[.slice A0 n0 c0] w fun e w' => e = .returned (.bool true) ∧ Below w.heap.size w w' := by
  unfold maxLen at hm0
  by_cases hbig0 : (1048576 : Int) < n0
  · go_enter Try.func4, Try.ntmps4
    go_wp2_with fail
    go_ret
    exact ⟨rfl, Below.refl _ _⟩
  have hn0 : n0 ≤ 1048576 := by omega
  have hni0 : (n0 : Int) ≤ 1048576 := by omega
  clear hm0
  go_enter Try.func4, Try.ntmps4
  go_wp2_with fail
  refine (drawLateArrive_any A0 n0 c0 bs0 _ hb0 hn0 hc0).mono ?_
  rintro e w1 ⟨n, A, c, l, least, start, B, d, ds, rfl, hl, hd, o_l, r_d, hb⟩
  have hcap := own_cap o_l
  obtain ⟨a, ha⟩ : ∃ a, arrL n l least start ds = a := ⟨_, rfl⟩
  have HA := Lib.hid ha
  have hal : a.length ≤ 100 := by
    rw [← ha]; unfold arrL; split
    · rename_i hh; rw [arrF_len hh]; exact hl
    · simp
  clear ha
  cases hok : lateOk n l least start ds
  · have HOK := Lib.hid hok
    clear hok
    go_wp2_with fail
    refine (iArrive_any n _ _ _ _ l least start _ _ _ _ ds _ (by omega) (Rd.of_own o_l) (Nat.le_refl _) (by omega) r_d (Nat.le_refl _) hcap).mono ?_
    rintro e w2 ⟨P2, d2, rfl, o_a, hs⟩
    replace o_l := own_below o_l hs
    replace r_d := (r_d.below hs (Nat.le_refl _)).more (Nat.le_refl _) hs.size
    replace hb := hb.trans (hs.mono hb.size)
    clear hs
    rw [HA.out] at o_a ⊢
    rw [HOK.out]
    go_wp2_with fail
    refine (sArrive_any n _ _ _ _ l least start _ _ _ _ ds _ (by omega) (Rd.of_own o_l) (Nat.le_refl _) (by omega) r_d (Nat.le_refl _)).mono ?_
    rintro e w3 ⟨P3, d3, rfl, o_a2, hs⟩
    replace o_l := own_below o_l hs
    replace r_d := (r_d.below hs (Nat.le_refl _)).more (Nat.le_refl _) hs.size
    replace o_a := own_below o_a hs
    replace hb := hb.trans (hs.mono hb.size)
    clear hs
    rw [HA.out] at o_a2 ⊢
    rw [HOK.out]
    go_wp2_with fail
    refine (sameInts_any _ _ _ _ _ _ _ _ a a _ (by omega) (Rd.of_own o_a) (Rd.of_own o_a2)).mono ?_
    rintro e w4 ⟨rfl, hs⟩
    replace o_l := own_below o_l hs
    replace r_d := (r_d.below hs (Nat.le_refl _)).more (Nat.le_refl _) hs.size
    replace o_a := own_below o_a hs
    replace o_a2 := own_below o_a2 hs
    replace hb := hb.trans (hs.mono hb.size)
    clear hs
    rw [show decide (a = a) = true from decide_eq_true rfl]
    go_wp2_with fail
    refine (sameInts_any _ _ _ _ _ _ _ _ a a _ (by omega) (Rd.of_own o_a) (Rd.of_own o_a2)).mono ?_
    rintro e w5 ⟨rfl, hs⟩
    replace o_l := own_below o_l hs
    replace r_d := (r_d.below hs (Nat.le_refl _)).more (Nat.le_refl _) hs.size
    replace o_a := own_below o_a hs
    replace o_a2 := own_below o_a2 hs
    replace hb := hb.trans (hs.mono hb.size)
    clear hs
    rw [show decide (a = a) = true from decide_eq_true rfl]
    go_wp2_with fail
    go_ret
    exact ⟨rfl, by (repeat (first | exact Below.refl _ _ | assumption | apply below_alloc | apply below_drewN | apply Below.drew | refine Below.setCell ?_ (by simp; try omega) _))⟩
  have HOK := Lib.hid hok
  clear hok
  go_wp2_with fail
  refine (iArrive_any n _ _ _ _ l least start _ _ _ _ ds _ (by omega) (Rd.of_own o_l) (Nat.le_refl _) (by omega) r_d (Nat.le_refl _) hcap).mono ?_
  rintro e w2 ⟨P2, d2, rfl, o_a, hs⟩
  replace o_l := own_below o_l hs
  replace r_d := (r_d.below hs (Nat.le_refl _)).more (Nat.le_refl _) hs.size
  replace hb := hb.trans (hs.mono hb.size)
  clear hs
  rw [HA.out] at o_a ⊢
  rw [HOK.out]
  go_wp2_with fail
  refine (sArrive_any n _ _ _ _ l least start _ _ _ _ ds _ (by omega) (Rd.of_own o_l) (Nat.le_refl _) (by omega) r_d (Nat.le_refl _)).mono ?_
  rintro e w3 ⟨P3, d3, rfl, o_a2, hs⟩
  replace o_l := own_below o_l hs
  replace r_d := (r_d.below hs (Nat.le_refl _)).more (Nat.le_refl _) hs.size
  replace o_a := own_below o_a hs
  replace hb := hb.trans (hs.mono hb.size)
  clear hs
  rw [HA.out] at o_a2 ⊢
  rw [HOK.out]
  go_wp2_with fail
  refine (sameInts_any _ _ _ _ _ _ _ _ a a _ (by omega) (Rd.of_own o_a) (Rd.of_own o_a2)).mono ?_
  rintro e w4 ⟨rfl, hs⟩
  replace o_l := own_below o_l hs
  replace r_d := (r_d.below hs (Nat.le_refl _)).more (Nat.le_refl _) hs.size
  replace o_a := own_below o_a hs
  replace o_a2 := own_below o_a2 hs
  replace hb := hb.trans (hs.mono hb.size)
  clear hs
  rw [show decide (a = a) = true from decide_eq_true rfl]
  clear o_a2
  have haF : a = arrF l least start ds := by rw [← HA.out, arrL, if_pos HOK.out]
  obtain ⟨b, hb2⟩ : ∃ b, b = leaF l least start ds := ⟨_, rfl⟩
  obtain ⟨S, hS⟩ : ∃ S, S = slacks least l := ⟨_, rfl⟩
  have HB := Lib.hid (show leaL n l least start ds = b by rw [leaL, if_pos HOK.out, hb2])
  have HSO := Lib.hid (lateOk_and HOK.out).1
  have HSL := Lib.hid (show slackL n l least = S by rw [slackL, if_pos HSO.out, hS])
  obtain ⟨k1, k2, k3, k4, k5, k6, k7⟩ := late_arrive_law HOK.out haF hb2 hS
  have HK7 := Lib.hid k7
  have HLV := Lib.hid (fun i hi => late_leave_law HOK.out haF hb2 i hi)
  have HSM := Lib.hid (fun s hs => mem_slacks (least := least) HSO.out s hs)
  have HDS := Lib.hid (lateOk_ds HOK.out)
  have HS := Lib.hid hS
  obtain ⟨hm1, hm2, hm3, hm4⟩ := late_len HOK.out
  clear haF hb2 hS k7
  have n1 : ((b.length : Int) != (a.length : Int)) = false := not_wrong (by omega)
  have n2 : ((S.length : Int) != (a.length : Int)) = false := not_wrong (by omega)
  have N3 := Lib.hid (show ((a.length : Int) == (l.length : Int)) = true by rw [beq_iff_eq]; omega)
  have hlA : a.length = ds.length + 1 := by omega
  have HLA := Lib.hid hlA
  have q1 : a.length ≤ l.length := by omega
  have q2 : b.length ≤ a.length := by omega
  have q3 : a.length ≤ b.length := by omega
  have q4 : a.length ≤ S.length := by omega
  have q5 : l.length ≤ 8 := by omega
  have q6 : S.length ≤ l.length := by omega
  have q7 : a.length ≤ ds.length + 1 := by omega
  have q8 : ds.length + 1 ≤ a.length := by omega
  have K1 := Lib.hid k1
  have K2 := Lib.hid k2
  have K3 := Lib.hid k3
  clear hlA k1 k2 k3 k4 hm3 hm4
  go_wp2_with fail
  refine (iLeave_any n _ _ _ _ l least start _ _ _ _ ds _ (by omega) (Rd.of_own o_l) (Nat.le_refl _) (by omega) r_d (Nat.le_refl _) hcap).mono ?_
  rintro e w5 ⟨P5, d5, rfl, o_b, hs⟩
  replace o_l := own_below o_l hs
  replace r_d := (r_d.below hs (Nat.le_refl _)).more (Nat.le_refl _) hs.size
  replace o_a := own_below o_a hs
  replace hb := hb.trans (hs.mono hb.size)
  clear hs
  rw [HB.out] at o_b ⊢
  rw [HOK.out]
  go_wp2_with fail
  refine (iSlack_any n _ _ _ _ l least _ (by omega) (Rd.of_own o_l) (Nat.le_refl _) hcap).mono ?_
  rintro e w6 ⟨P6, d6, rfl, o_s, hs⟩
  replace o_l := own_below o_l hs
  replace r_d := (r_d.below hs (Nat.le_refl _)).more (Nat.le_refl _) hs.size
  replace o_a := own_below o_a hs
  replace o_b := own_below o_b hs
  replace hb := hb.trans (hs.mono hb.size)
  clear hs
  rw [HSL.out] at o_s ⊢
  rw [HSO.out]
  obtain ⟨ba, oa, rfl, ca⟩ := (Rd.of_own o_a).all1 (by omega)
  obtain ⟨bb, ob, rfl, cb⟩ := (Rd.of_own o_b).all1 (by omega)
  obtain ⟨bs, os, rfl, cs⟩ := (Rd.of_own o_s).all1 (by omega)
  obtain ⟨bd, od, rfl, cd⟩ := r_d.all1 (by omega)
  have CA := Lib.hid ca
  have CB := Lib.hid cb
  have CS := Lib.hid cs
  have CD := Lib.hid cd
  have K5 := Lib.hid k5
  have K6 := Lib.hid k6
  clear ca cb cs cd o_a o_b o_s o_l r_d k5 k6
  go_wp2_with fail
  go_loopw [16] (fun i wr => ∃ (k q : Nat), k + 1 ≤ a.length ∧ i = .int .i64 ((k : Int) + 1) ∧ wr = w6.drewN q) (fun i _ => a.length - (intOf i).toNat)
  case atStart => exact ⟨0, 0, by omega, by go_num, rfl⟩
  case round =>
    obtain ⟨k, q, hk, rfl, rfl⟩ := hrel
    by_cases hlt : (k : Int) + 1 < (a.length : Int)
    · have a1 := CA.out (k + 1) (by omega)
      have b0 := CB.out k (by omega)
      have b1 := CB.out (k + 1) (by omega)
      have s1 := CS.out (k + 1) (by omega)
      have d0 := CD.out k (by omega)
      obtain ⟨r1, r2⟩ := HK7.out k (by omega)
      obtain ⟨v1, v2, v3⟩ := HLV.out k (by omega)
      obtain ⟨v4, v5, v6⟩ := HLV.out (k + 1) (by omega)
      have v7 := HSM.out (S.getD (k + 1) 0) (by rw [← HS.out, getD_get (by omega)]; exact List.getElem_mem _)
      have v8 := HDS.out (ds.getD k 0) (by rw [getD_get (by omega)]; exact List.getElem_mem _)
      generalize a.getD (k + 1) 0 = xa at *
      generalize a.getD k 0 = xa0 at *
      generalize b.getD k 0 = xb0 at *
      generalize b.getD (k + 1) 0 = xb1 at *
      generalize S.getD (k + 1) 0 = xs at *
      generalize ds.getD k 0 = xd at *
      obtain ⟨v7, v7'⟩ := v7
      obtain ⟨v8, v8'⟩ := v8
      have z1 : (0 : Int) ≤ (k : Int) + 1 := by omega
      have z2 : (k : Int) < (b.length : Int) := by omega
      have z3 : (k : Int) < (ds.length : Int) := by omega
      have z4 : (k : Int) + 1 < (b.length : Int) := by omega
      have z5 : (k : Int) + 1 < (S.length : Int) := by omega
      have z6 : (0 : Int) ≤ (k : Int) := by omega
      have t1 : (xa != xb0 + xd) = false := not_wrong r1
      have p1 : IntKind.i64.wrap (xb0 + xd) = xb0 + xd := IntWalk.i64_in _ (by omega)
      have p2 : IntKind.i64.wrap (xa - xs) = xa - xs := IntWalk.i64_in _ (by omega)
      have p3 : IntKind.i64.wrap ((k : Int) + 1 - 1) = k := by rw [show (k : Int) + 1 - 1 = k by omega]; exact IntWalk.i64_in _ (by omega)
      by_cases hmx : xa - xs < 0
      · have t2 : (xb1 != 0) = false := not_wrong (by omega)
        have hmx2 : xa < xs := by omega
        clear r1 r2
        go_wp2_with fail
        go_quiet (fail)
        clear p1 p2 p3
        go_wp2_with fail
        go_roundw
        case rel => exact ⟨k + 1, _, by omega, by go_num, rfl⟩
        case measure => simp [intOf]; omega
      · have t2 : (xb1 != xa - xs) = false := not_wrong (by omega)
        have hmx2 : 0 ≤ xa - xs := by omega
        have hmx3 : xs ≤ xa := by omega
        clear r1 r2
        go_wp2_with fail
        go_quiet (fail)
        clear p1 p2 p3
        go_wp2_with fail
        go_roundw
        case rel => exact ⟨k + 1, _, by omega, by go_num, rfl⟩
        case measure => simp [intOf]; omega
    · have a0 := CA.out 0 (by omega)
      have b0 := CB.out 0 (by omega)
      rw [K5.out] at a0
      rw [K6.out] at b0
      simp only [Nat.add_zero] at a0 b0
      have z1 : (0 : Int) < (a.length : Int) := by omega
      have z2 : (0 : Int) < (b.length : Int) := by omega
      have z3 : 0 < a.length := by omega
      have z4 : 0 < b.length := by omega
      have t0 : (start == start) = true := by simp
      have n3 := N3.out
      go_wp2_with fail
      try go_quiet (fail)
      try go_wp2_with fail
      go_ret
      exact ⟨rfl, by (repeat (first | exact Below.refl _ _ | assumption | apply below_alloc | apply below_drewN | apply Below.drew | refine Below.setCell ?_ (by simp; try omega) _))⟩

set_option maxRecDepth 100000 in
theorem lateArrive_lifted (os : Os) (started : os.Started) (H : Type) (enc : TypeId × Value → H) :
    ReturnsInHanded {} Try.checked os 4 .any (Rows.fnLateArriveSpec.pre6 enc Try.prog Try.f4 Rows.fnLateArriveRow.domain false) (Rows.fnLateArriveSpec.post enc Try.prog Try.f4 false true false false) := by
  refine returnsInHanded_of_change (C := Try.checked) prog_own started (by kernel_rfl) Try.func4
    (ChangeSpec.witness6 (enc := enc) (C := Try.checked) false ⟨#[], #[.slice none 0 0], []⟩ 8 (by kernel_rfl) (by kernel_rfl) (by kernel_rfl) (by kernel_rfl)) ?_
  intro W base args ds gs before hval0 hW hcnd _
  have hval : ∀ (j : Nat) t v, Try.f4.params[j]? = some t → args[j]? = some v → Value.okWide Try.prog W .any base t v := hval0
  have hW' := hW
  obtain ⟨p, q, hA0, hV, rfl, hfz, hnd⟩ := hW
  have hA : DataW.TrodAll enc Try.prog W 0 (fun _ => true) true Try.f4.params.toList args.toList ds p := hA0
  rw [Try.params4] at hA hval
  obtain ⟨v0, vs0, d0, ds0, p0, q0, hargs, rfl, rfl, h0, r0⟩ := trodAll_cons hA
  obtain ⟨rfl, rfl, rfl⟩ := trodAll_nil r0
  obtain rfl : args = #[v0] := by cases args; simp_all
  obtain ⟨rfl, rfl⟩ := trodVars_none hV
  obtain ⟨a0, len0, cap0, rfl⟩ := okWide_slice Try.underlying22 (hval 0 22 v0 rfl rfl)
  have k0 := h0
  have lt0 : ∀ x ∈ p0, x.block < W.heap.size := by obtain ⟨m, hm⟩ := k0; exact DataW.trod_lt m _ _ _ hm
  obtain ⟨fuel0, hf0⟩ := h0
  obtain ⟨bs0, hm0, hb0, hc0⟩ := open_b1 Try.underlying22 Try.underlying5 (by kernel_rfl) hf0
  clear hA0 hval0
  refine (lateArrive_any a0 cap0 len0 bs0 W hm0 hb0 hc0).mono fun e W' ⟨he, bel⟩ => ?_
  subst he
  exact ⟨_, rfl, _, _, _, [], _, [], hW', trodAll_mk1 (shut_bool Try.underlying4 _), (trodAll_cons_mk (Below.trod prog_laidOut (by kernel_rfl) (of_decide_eq_true (by kernel_rfl)) k0 bel lt0) trodAll_mk0), rfl, bel.frame _, fun h => by cases h⟩

theorem lateArrive_holds : Rows.FnLateArriveSaid :=
  OpenClaim.holds_of_wide 4 Try.f4 rfl rfl rfl rfl rfl rfl rfl ⟨rfl, rfl, rfl, rfl, rfl⟩ rfl rfl rfl rfl rfl (by kernel_rfl) Try.func4 (by kernel_rfl)
    (of_decide_eq_true (by kernel_rfl)) (by unfold Func.isWrapper; first | (rw [if_pos (by decide +kernel)]; kernel_rfl) | (rw [if_neg (by decide +kernel)]; exact ⟨rfl, rfl⟩))
    (fun os started H enc _ => lateArrive_lifted os started H enc)

end Go.Proofs.Ytjpjglpabnlobaa
