/-
  For every input the law FnLateLeave returns true: nobody leaves early.
-/
import Derived.Test.YtjpjglpabnlobaaLateLaws2
import Derived.Test.YtjpjglpabnlobaaLawFns
import Derived.Test.YtjpjglpabnlobaaLateArgs
import Derived.Test.YtjpjglpabnlobaaLate2
namespace Go.Proofs.Ytjpjglpabnlobaa
open Go.ChangeShapes Go.WideShapes Go.ChangeAt Go.RowKit

set_option maxRecDepth 100000 in
set_option maxHeartbeats 4000000 in
theorem lateLeave_any (A0 : Option Addr) (c0 n0 : Nat) (bs0 : Nat → Int) (w : World) (hm0 : n0 ≤ maxLen) (hb0 : Byt w w.heap.size A0 n0 bs0) (hc0 : n0 ≤ c0) :
    Calls Try.prog 5 #[.slice A0 n0 c0] w fun e w' => e = .returned (.bool true) ∧ Below w.heap.size w w' := by
  unfold maxLen at hm0
  by_cases hbig0 : (1048576 : Int) < n0
  · go_enter Try.func5, Try.ntmps5
    go_wp2_with fail
    go_ret
    exact ⟨rfl, Below.refl _ _⟩
  have hn0 : n0 ≤ 1048576 := by omega
  have hni0 : (n0 : Int) ≤ 1048576 := by omega
  clear hm0
  go_enter Try.func5, Try.ntmps5
  go_wp2_with fail
  refine (drawLateLeave_any A0 n0 c0 bs0 _ hb0 hn0 hc0).mono ?_
  rintro e w1 ⟨n, A, c, l, least, start, B, d, ds, rfl, hl, hd, o_l, r_d, hb⟩
  have hcap := own_cap o_l
  obtain ⟨a, ha⟩ : ∃ a, leaL n l least start ds = a := ⟨_, rfl⟩
  have HA := Lib.hid ha
  have hal : a.length ≤ 100 := by
    rw [← ha]; unfold leaL; split
    · rename_i hh; rw [leaF_len hh]; exact hl
    · simp
  clear ha
  cases hok : lateOk n l least start ds
  · have HOK := Lib.hid hok
    clear hok
    go_wp2_with fail
    refine (iLeave_any n _ _ _ _ l least start _ _ _ _ ds _ (by omega) (Rd.of_own o_l) (Nat.le_refl _) (by omega) r_d (Nat.le_refl _) hcap).mono ?_
    rintro e w2 ⟨P2, d2, rfl, o_a, hs⟩
    replace o_l := own_below o_l hs
    replace r_d := (r_d.below hs (Nat.le_refl _)).more (Nat.le_refl _) hs.size
    replace hb := hb.trans (hs.mono hb.size)
    clear hs
    rw [HA.out] at o_a ⊢
    rw [HOK.out]
    go_wp2_with fail
    refine (sLeave_any n _ _ _ _ l least start _ _ _ _ ds _ (by omega) (Rd.of_own o_l) (Nat.le_refl _) (by omega) r_d (Nat.le_refl _)).mono ?_
    rintro e w3 ⟨P3, d3, rfl, o_a2, hs⟩
    replace o_l := own_below o_l hs
    replace r_d := (r_d.below hs (Nat.le_refl _)).more (Nat.le_refl _) hs.size
    replace o_a := own_below o_a hs
    replace hb := hb.trans (hs.mono hb.size)
    clear hs
    rw [HA.out] at o_a2 ⊢
    rw [HOK.out]
    go_wp2_with fail
    refine (sameInts_any _ _ _ _ _ _ _ _ a a _ (by omega) (Rd.of_own o_a) (Rd.of_own o_a2)).mono ?_
    rintro e w4 ⟨rfl, hs⟩
    replace o_l := own_below o_l hs
    replace r_d := (r_d.below hs (Nat.le_refl _)).more (Nat.le_refl _) hs.size
    replace o_a := own_below o_a hs
    replace o_a2 := own_below o_a2 hs
    replace hb := hb.trans (hs.mono hb.size)
    clear hs
    rw [show decide (a = a) = true from decide_eq_true rfl]
    go_wp2_with fail
    refine (sameInts_any _ _ _ _ _ _ _ _ a a _ (by omega) (Rd.of_own o_a) (Rd.of_own o_a2)).mono ?_
    rintro e w5 ⟨rfl, hs⟩
    replace o_l := own_below o_l hs
    replace r_d := (r_d.below hs (Nat.le_refl _)).more (Nat.le_refl _) hs.size
    replace o_a := own_below o_a hs
    replace o_a2 := own_below o_a2 hs
    replace hb := hb.trans (hs.mono hb.size)
    clear hs
    rw [show decide (a = a) = true from decide_eq_true rfl]
    go_wp2_with fail
    go_ret
    exact ⟨rfl, by (repeat (first | exact Below.refl _ _ | assumption | apply below_alloc | apply below_drewN | apply Below.drew | refine Below.setCell ?_ (by simp; try omega) _))⟩
  have HOK := Lib.hid hok
  clear hok
  go_wp2_with fail
  refine (iLeave_any n _ _ _ _ l least start _ _ _ _ ds _ (by omega) (Rd.of_own o_l) (Nat.le_refl _) (by omega) r_d (Nat.le_refl _) hcap).mono ?_
  rintro e w2 ⟨P2, d2, rfl, o_a, hs⟩
  replace o_l := own_below o_l hs
  replace r_d := (r_d.below hs (Nat.le_refl _)).more (Nat.le_refl _) hs.size
  replace hb := hb.trans (hs.mono hb.size)
  clear hs
  rw [HA.out] at o_a ⊢
  rw [HOK.out]
  go_wp2_with fail
  refine (sLeave_any n _ _ _ _ l least start _ _ _ _ ds _ (by omega) (Rd.of_own o_l) (Nat.le_refl _) (by omega) r_d (Nat.le_refl _)).mono ?_
  rintro e w3 ⟨P3, d3, rfl, o_a2, hs⟩
  replace o_l := own_below o_l hs
  replace r_d := (r_d.below hs (Nat.le_refl _)).more (Nat.le_refl _) hs.size
  replace o_a := own_below o_a hs
  replace hb := hb.trans (hs.mono hb.size)
  clear hs
  rw [HA.out] at o_a2 ⊢
  rw [HOK.out]
  go_wp2_with fail
  refine (sameInts_any _ _ _ _ _ _ _ _ a a _ (by omega) (Rd.of_own o_a) (Rd.of_own o_a2)).mono ?_
  rintro e w4 ⟨rfl, hs⟩
  replace o_l := own_below o_l hs
  replace r_d := (r_d.below hs (Nat.le_refl _)).more (Nat.le_refl _) hs.size
  replace o_a := own_below o_a hs
  replace o_a2 := own_below o_a2 hs
  replace hb := hb.trans (hs.mono hb.size)
  clear hs
  rw [show decide (a = a) = true from decide_eq_true rfl]
  clear o_a2
  have haF : a = leaF l least start ds := by rw [← HA.out, leaL, if_pos HOK.out]
  obtain ⟨b, hb2⟩ : ∃ b, b = arrF l least start ds := ⟨_, rfl⟩
  have HB := Lib.hid (show arrL n l least start ds = b by rw [arrL, if_pos HOK.out, hb2])
  have k1 : a.length = l.length := by rw [haF, leaF_len HOK.out]
  have k2 : b.length = l.length := by rw [hb2, arrF_len HOK.out]
  have HLV := Lib.hid (fun i hi => late_leave_law HOK.out hb2 haF i hi)
  obtain ⟨hm1, hm2, hm3, hm4⟩ := late_len HOK.out
  obtain ⟨_, hle1, hle2⟩ := slackOk_and (lateOk_and HOK.out).1
  have HNX := Lib.hid (lateOk_next HOK.out)
  have HAF := Lib.hid haF
  clear haF hb2
  have n1 : ((b.length : Int) != (a.length : Int)) = false := not_wrong (by omega)
  have q1 : a.length ≤ l.length := by omega
  have q2 : l.length ≤ a.length := by omega
  have q3 : b.length ≤ a.length := by omega
  have q4 : a.length ≤ b.length := by omega
  have q5 : l.length ≤ 8 := by omega
  have q0 : 2 ≤ l.length := by omega
  have K1 := Lib.hid k1
  have K2 := Lib.hid k2
  clear k1 k2 hm3 hm4
  go_wp2_with fail
  refine (iArrive_any n _ _ _ _ l least start _ _ _ _ ds _ (by omega) (Rd.of_own o_l) (Nat.le_refl _) (by omega) r_d (Nat.le_refl _) hcap).mono ?_
  rintro e w5 ⟨P5, d5, rfl, o_b, hs⟩
  replace o_l := own_below o_l hs
  replace r_d := (r_d.below hs (Nat.le_refl _)).more (Nat.le_refl _) hs.size
  replace o_a := own_below o_a hs
  replace hb := hb.trans (hs.mono hb.size)
  clear hs
  rw [HB.out] at o_b ⊢
  rw [HOK.out]
  cases hq : lateOk n l (least + 1) start ds
  · have HQ := Lib.hid hq
    clear hq
    obtain ⟨e, he⟩ : ∃ e, e = leaL n l (least + 1) start ds := ⟨_, rfl⟩
    have HE := Lib.hid he
    have he0 : least = 300 := HNX.out.resolve_left (by rw [HQ.out]; simp)
    have t9 : (least == 300) = true := by simp [he0]
    have HE0 := Lib.hid he0
    clear he0 he
    go_wp2_with fail
    refine (iLeave_any n _ _ _ _ l (least + 1) start _ _ _ _ ds _ (by omega) (Rd.of_own o_l) (Nat.le_refl _) (by omega) r_d (Nat.le_refl _) hcap).mono ?_
    rintro e w6 ⟨P6, d6, rfl, o_e, hs⟩
    replace o_l := own_below o_l hs
    replace r_d := (r_d.below hs (Nat.le_refl _)).more (Nat.le_refl _) hs.size
    replace o_a := own_below o_a hs
    replace o_b := own_below o_b hs
    replace hb := hb.trans (hs.mono hb.size)
    clear hs
    rw [← HE.out] at o_e ⊢
    rw [HQ.out]
    obtain ⟨ba, oa, rfl, ca⟩ := (Rd.of_own o_a).all1 (by omega)
    obtain ⟨bb, ob, rfl, cb⟩ := (Rd.of_own o_b).all1 (by omega)
    have CA := Lib.hid ca
    have CB := Lib.hid cb
    clear ca cb o_a o_b o_e o_l r_d
    go_wp2_with fail
    go_loopw [16] (fun i wr => ∃ (k q : Nat), k ≤ a.length ∧ i = .int .i64 k ∧ wr = w6.drewN q) (fun i _ => a.length - (intOf i).toNat)
    case atStart => exact ⟨0, 0, by omega, rfl, rfl⟩
    case round =>
      obtain ⟨k, q, hk, rfl, rfl⟩ := hrel
      by_cases hlt : k < a.length
      · have a1 := CA.out k (by omega)
        have b1 := CB.out k (by omega)
        obtain ⟨v1, v2, v3⟩ := HLV.out k (by omega)
        generalize a.getD k 0 = xa at *
        generalize b.getD k 0 = xb at *
        have t1 : decide (xa < 0) = false := decide_eq_false (by omega)
        have t2 : decide (xb < xa) = false := decide_eq_false (by omega)
        have z1 : (0 : Int) ≤ (k : Int) := by omega
        have z2 : (k : Int) < (b.length : Int) := by omega
        have z4 : (k : Int) < (a.length : Int) := by omega
        go_wp2_with fail
        go_quiet (fail)
        go_wp2_with fail
        go_roundw
        case rel => exact ⟨k + 1, _, by omega, by go_num, rfl⟩
        case measure => simp [intOf]; omega
      · go_wp2_with fail
        try go_quiet (fail)
        try go_wp2_with fail
        go_ret
        exact ⟨rfl, by (repeat (first | exact Below.refl _ _ | assumption | apply below_alloc | apply below_drewN | apply Below.drew | refine Below.setCell ?_ (by simp; try omega) _))⟩
  · have HQ := Lib.hid hq
    clear hq
    obtain ⟨e, he⟩ : ∃ e, e = leaL n l (least + 1) start ds := ⟨_, rfl⟩
    have HE := Lib.hid he
    have heF : e = leaF l (least + 1) start ds := by rw [he, leaL, if_pos HQ.out]
    have hel : e.length = l.length := by rw [heF, leaF_len HQ.out]
    have HMO := Lib.hid (fun i => late_leave_mono (n := n) HAF.out heF i)
    have q6 : a.length ≤ e.length := by omega
    have q7 : e.length ≤ 8 := by omega
    clear he heF hel
    go_wp2_with fail
    refine (iLeave_any n _ _ _ _ l (least + 1) start _ _ _ _ ds _ (by omega) (Rd.of_own o_l) (Nat.le_refl _) (by omega) r_d (Nat.le_refl _) hcap).mono ?_
    rintro e w6 ⟨P6, d6, rfl, o_e, hs⟩
    replace o_l := own_below o_l hs
    replace r_d := (r_d.below hs (Nat.le_refl _)).more (Nat.le_refl _) hs.size
    replace o_a := own_below o_a hs
    replace o_b := own_below o_b hs
    replace hb := hb.trans (hs.mono hb.size)
    clear hs
    rw [← HE.out] at o_e ⊢
    rw [HQ.out]
    obtain ⟨ba, oa, rfl, ca⟩ := (Rd.of_own o_a).all1 (by omega)
    obtain ⟨bb, ob, rfl, cb⟩ := (Rd.of_own o_b).all1 (by omega)
    obtain ⟨be, oe, rfl, ce⟩ := (Rd.of_own o_e).all1 (by omega)
    have CE := Lib.hid ce
    clear ce
    have CA := Lib.hid ca
    have CB := Lib.hid cb
    clear ca cb o_a o_b o_e o_l r_d
    go_wp2_with fail
    go_loopw [16] (fun i wr => ∃ (k q : Nat), k ≤ a.length ∧ i = .int .i64 k ∧ wr = w6.drewN q) (fun i _ => a.length - (intOf i).toNat)
    case atStart => exact ⟨0, 0, by omega, rfl, rfl⟩
    case round =>
      obtain ⟨k, q, hk, rfl, rfl⟩ := hrel
      by_cases hlt : k < a.length
      · have a1 := CA.out k (by omega)
        have b1 := CB.out k (by omega)
        obtain ⟨v1, v2, v3⟩ := HLV.out k (by omega)
        have e1 := CE.out k (by omega)
        have v4 := HMO.out k
        generalize e.getD k 0 = xe at *
        generalize a.getD k 0 = xa at *
        generalize b.getD k 0 = xb at *
        have t1 : decide (xa < 0) = false := decide_eq_false (by omega)
        have t2 : decide (xb < xa) = false := decide_eq_false (by omega)
        have t3 : decide (xe < xa) = false := decide_eq_false (by omega)
        have z3 : (k : Int) < (e.length : Int) := by omega
        have z1 : (0 : Int) ≤ (k : Int) := by omega
        have z2 : (k : Int) < (b.length : Int) := by omega
        have z4 : (k : Int) < (a.length : Int) := by omega
        go_wp2_with fail
        go_quiet (fail)
        go_wp2_with fail
        go_roundw
        case rel => exact ⟨k + 1, _, by omega, by go_num, rfl⟩
        case measure => simp [intOf]; omega
      · go_wp2_with fail
        try go_quiet (fail)
        try go_wp2_with fail
        go_ret
        exact ⟨rfl, by (repeat (first | exact Below.refl _ _ | assumption | apply below_alloc | apply below_drewN | apply Below.drew | refine Below.setCell ?_ (by simp; try omega) _))⟩

set_option maxRecDepth 100000 in
theorem lateLeave_lifted (os : Os) (started : os.Started) (H : Type) (enc : TypeId × Value → H) :
    ReturnsInHanded {} Try.checked os 5 .any (Rows.fnLateLeaveSpec.pre6 enc Try.prog Try.f5 Rows.fnLateLeaveRow.domain false) (Rows.fnLateLeaveSpec.post enc Try.prog Try.f5 false true false false) := by
  refine returnsInHanded_of_change (C := Try.checked) prog_own started (by kernel_rfl) Try.func5
    (ChangeSpec.witness6 (enc := enc) (C := Try.checked) false ⟨#[], #[.slice none 0 0], []⟩ 8 (by kernel_rfl) (by kernel_rfl) (by kernel_rfl) (by kernel_rfl)) ?_
  intro W base args ds gs before hval0 hW hcnd _
  have hval : ∀ (j : Nat) t v, Try.f5.params[j]? = some t → args[j]? = some v → Value.okWide Try.prog W .any base t v := hval0
  have hW' := hW
  obtain ⟨p, q, hA0, hV, rfl, hfz, hnd⟩ := hW
  have hA : DataW.TrodAll enc Try.prog W 0 (fun _ => true) true Try.f5.params.toList args.toList ds p := hA0
  rw [Try.params5] at hA hval
  obtain ⟨v0, vs0, d0, ds0, p0, q0, hargs, rfl, rfl, h0, r0⟩ := trodAll_cons hA
  obtain ⟨rfl, rfl, rfl⟩ := trodAll_nil r0
  obtain rfl : args = #[v0] := by cases args; simp_all
  obtain ⟨rfl, rfl⟩ := trodVars_none hV
  obtain ⟨a0, len0, cap0, rfl⟩ := okWide_slice Try.underlying22 (hval 0 22 v0 rfl rfl)
  have k0 := h0
  have lt0 : ∀ x ∈ p0, x.block < W.heap.size := by obtain ⟨m, hm⟩ := k0; exact DataW.trod_lt m _ _ _ hm
  obtain ⟨fuel0, hf0⟩ := h0
  obtain ⟨bs0, hm0, hb0, hc0⟩ := open_b1 Try.underlying22 Try.underlying5 (by kernel_rfl) hf0
  clear hA0 hval0
  refine (lateLeave_any a0 cap0 len0 bs0 W hm0 hb0 hc0).mono fun e W' ⟨he, bel⟩ => ?_
  subst he
  exact ⟨_, rfl, _, _, _, [], _, [], hW', trodAll_mk1 (shut_bool Try.underlying4 _), (trodAll_cons_mk (Below.trod prog_laidOut (by kernel_rfl) (of_decide_eq_true (by kernel_rfl)) k0 bel lt0) trodAll_mk0), rfl, bel.frame _, fun h => by cases h⟩

theorem lateLeave_holds : Rows.FnLateLeaveSaid :=
  OpenClaim.holds_of_wide 5 Try.f5 rfl rfl rfl rfl rfl rfl rfl ⟨rfl, rfl, rfl, rfl, rfl⟩ rfl rfl rfl rfl rfl (by kernel_rfl) Try.func5 (by kernel_rfl)
    (of_decide_eq_true (by kernel_rfl)) (by unfold Func.isWrapper; first | (rw [if_pos (by decide +kernel)]; kernel_rfl) | (rw [if_neg (by decide +kernel)]; exact ⟨rfl, rfl⟩))
    (fun os started H enc _ => lateLeave_lifted os started H enc)

end Go.Proofs.Ytjpjglpabnlobaa
