/-
  For every input the law FnConnectLate returns true: nobody waits for those who do not come.
-/
import Derived.Test.YteceohdchknbbaaConnectLaws
import Derived.Test.YteceohdchknbbaaConnectArgs
import Derived.Test.YteceohdchknbbaaDrawArgs
namespace Go.Proofs.Yteceohdchknbbaa
open Go.ChangeShapes Go.WideShapes Go.ChangeAt Go.RowKit

set_option maxRecDepth 100000 in
set_option maxHeartbeats 4000000 in
theorem connectLate_any (A0 : Option Addr) (c0 n0 : Nat) (bs0 : Nat → Int) (w : World) (hm0 : n0 ≤ maxLen) (hb0 : Byt w w.heap.size A0 n0 bs0) (hc0 : n0 ≤ c0) :
    Calls Try.prog 6 #[.slice A0 n0 c0] w fun e w' => e = .returned (.bool true) ∧ Below w.heap.size w w' := by
  unfold maxLen at hm0
  by_cases hbig0 : (1048576 : Int) < n0
  · go_enter Try.func6, Try.ntmps6
    go_wp2_with fail
    go_ret
    exact ⟨rfl, Below.refl _ _⟩
  have hn0 : n0 ≤ 1048576 := by omega
  have hni0 : (n0 : Int) ≤ 1048576 := by omega
  clear hm0
  go_enter Try.func6, Try.ntmps6
  go_wp2_with fail
  refine (drawConnectLate_any A0 n0 c0 bs0 _ hb0 hn0 hc0).mono ?_
  rintro e w1 ⟨n, A, c, a, B, d, b, t, late, change, most, rfl, hla, hlb, o_a, o_b, hb⟩
  obtain ⟨v, hv⟩ : ∃ v, v = lateV n a b t late change most := ⟨_, rfl⟩
  have HV := Lib.hid hv
  clear hv
  have hne : (v != v) = false := by simp
  have hee : (v == v) = true := by simp
  cases ho : iwOk n a b t late change most
  · have HO := Lib.hid ho
    clear ho
    go_wp2_with fail
    refine (iLate_any n _ _ _ _ _ _ _ _ a b t late change most _ (by omega) (by omega) (Rd.of_own o_a) (Nat.le_refl _) (Rd.of_own o_b) (Nat.le_refl _)).mono ?_
    rintro e w2 ⟨rfl, hs⟩
    replace o_a := own_below o_a hs
    replace o_b := own_below o_b hs
    replace hb := hb.trans (hs.mono hb.size)
    clear hs
    rw [← HV.out, HO.out]
    go_wp2_with fail
    refine (sLate_any n _ _ _ _ _ _ _ _ a b t late change most _ (by omega) (by omega) (Rd.of_own o_a) (Nat.le_refl _) (Rd.of_own o_b) (Nat.le_refl _)).mono ?_
    rintro e w3 ⟨rfl, hs⟩
    replace o_a := own_below o_a hs
    replace o_b := own_below o_b hs
    replace hb := hb.trans (hs.mono hb.size)
    clear hs
    rw [← HV.out, HO.out]
    go_wp2_with fail
    go_ret
    exact ⟨rfl, by (repeat (first | exact Below.refl _ _ | assumption | apply below_alloc | apply below_drewN | apply Below.drew | refine Below.setCell ?_ (by simp; try omega) _))⟩
  have HO := Lib.hid ho
  obtain ⟨i1, k1, hl0, hl1, hc0, hc1, hm0, hm1, hcase⟩ := late_law ho
  clear ho
  obtain ⟨i, hi, ei, -, es, -, hi7, hi0, hi1, hi2⟩ := stopsAt_get i1
  obtain ⟨k, hk, ek, -, et, -, hk7, hk0, hk1, hk2⟩ := stopsAt_get k1
  rw [es, et, ← HV.out] at hcase
  have EI := Lib.hid ei
  have EK := Lib.hid ek
  clear ei ek es et i1 k1
  go_wp2_with fail
  refine (iLate_any n _ _ _ _ _ _ _ _ a b t late change most _ (by omega) (by omega) (Rd.of_own o_a) (Nat.le_refl _) (Rd.of_own o_b) (Nat.le_refl _)).mono ?_
  rintro e w2 ⟨rfl, hs⟩
  replace o_a := own_below o_a hs
  replace o_b := own_below o_b hs
  replace hb := hb.trans (hs.mono hb.size)
  clear hs
  rw [← HV.out, HO.out]
  go_wp2_with fail
  refine (sLate_any n _ _ _ _ _ _ _ _ a b t late change most _ (by omega) (by omega) (Rd.of_own o_a) (Nat.le_refl _) (Rd.of_own o_b) (Nat.le_refl _)).mono ?_
  rintro e w3 ⟨rfl, hs⟩
  replace o_a := own_below o_a hs
  replace o_b := own_below o_b hs
  replace hb := hb.trans (hs.mono hb.size)
  clear hs
  rw [← HV.out, HO.out]
  obtain ⟨ai, hai⟩ : ∃ x, x = a[i].2.1 := ⟨_, rfl⟩
  obtain ⟨bk, hbk⟩ : ∃ x, x = b[k].2.2 := ⟨_, rfl⟩
  rw [← hai, ← hbk] at hcase
  rw [← hai] at hi0 hi1
  rw [← hbk] at hk1 hk2
  have HAI := Lib.hid hai
  have HBK := Lib.hid hbk
  clear hai hbk
  have ha0 : 0 ≤ ai ∧ ai ≤ 10000 := by omega
  have hb0' : 0 ≤ bk ∧ bk ≤ 10000 := by omega
  obtain ⟨ha0, ha1⟩ := ha0
  obtain ⟨hb0', hb1'⟩ := hb0'
  have p1 : IntKind.i64.wrap (ai + late) = ai + late := IntWalk.i64_in _ (by omega)
  have p2 : IntKind.i64.wrap (ai + late + change) = ai + late + change := IntWalk.i64_in _ (by omega)
  have z1 : (0 : Int) ≤ (i : Int) := by omega
  have z2 : (0 : Int) ≤ (k : Int) := by omega
  have z3 : (i : Int) < (a.length : Int) := by omega
  have z4 : (k : Int) < (b.length : Int) := by omega
  have zi : decide ((i : Int) < 0) = false := decide_eq_false (by omega)
  have zk : decide ((k : Int) < 0) = false := decide_eq_false (by omega)
  rcases hcase with ⟨hm, hv1, hv2⟩ | ⟨hm, hv1, hv2⟩
  · have HM := Lib.hid hm
    have hvb : 0 ≤ v := by omega
    have hvm : v ≤ 300 := by omega
    have hvmm : v ≤ most := by omega
    have HV1 := Lib.hid hv1
    clear hm hv1
    go_wp2_with fail
    refine (iMade_any n _ _ _ _ _ _ _ _ a b t late change most _ (by omega) (by omega) (Rd.of_own o_a) (Nat.le_refl _) (Rd.of_own o_b) (Nat.le_refl _)).mono ?_
    rintro e w4 ⟨rfl, hs⟩
    replace o_a := own_below o_a hs
    replace o_b := own_below o_b hs
    replace hb := hb.trans (hs.mono hb.size)
    clear hs
    rw [HM.out]
    go_wp2_with fail
    refine (iStopsAt n _ _ _ _ a t _ (by omega) (Rd.of_own o_a) (Nat.le_refl _)).mono ?_
    rintro e w5 ⟨rfl, hs⟩
    replace o_a := own_below o_a hs
    replace o_b := own_below o_b hs
    replace hb := hb.trans (hs.mono hb.size)
    clear hs
    rw [EI.out]
    go_wp2_with fail
    refine (iStopsAt n _ _ _ _ b t _ (by omega) (Rd.of_own o_b) (Nat.le_refl _)).mono ?_
    rintro e w6 ⟨rfl, hs⟩
    replace o_a := own_below o_a hs
    replace o_b := own_below o_b hs
    replace hb := hb.trans (hs.mono hb.size)
    clear hs
    rw [EK.out]
    obtain ⟨ba, oa, rfl, -, -, -, ca, -⟩ := (Rd.of_own o_a).at3 i hi
    obtain ⟨bb, ob, rfl, -, -, -, -, cb⟩ := (Rd.of_own o_b).at3 k hk
    rw [← HAI.out] at ca
    rw [← HBK.out] at cb
    have tv0 : decide (v < 0) = false := decide_eq_false (by omega)
    have tv1 : decide (most < v) = false := decide_eq_false (by omega)
    have p3 : IntKind.i64.wrap (bk + v) = bk + v := IntWalk.i64_in _ (by omega)
    have p4 : IntKind.i64.wrap (bk + most) = bk + most := IntWalk.i64_in _ (by omega)
    by_cases hmx : bk < ai + late + change
    · have t1 : (bk + v == ai + late + change) = true := by rw [beq_iff_eq]; have := HV1.out; omega
      clear hv2
      go_wp2_with fail
      go_quiet (fail)
      go_wp2_with fail
      go_ret
      exact ⟨rfl, by (repeat (first | exact Below.refl _ _ | assumption | apply below_alloc | apply below_drewN | apply Below.drew | refine Below.setCell ?_ (by simp; try omega) _))⟩
    · have t1 : (bk + v == bk) = true := by rw [beq_iff_eq]; have := HV1.out; omega
      have hmx2 : ai + late + change ≤ bk := by omega
      clear hv2
      go_wp2_with fail
      go_quiet (fail)
      go_wp2_with fail
      go_ret
      exact ⟨rfl, by (repeat (first | exact Below.refl _ _ | assumption | apply below_alloc | apply below_drewN | apply Below.drew | refine Below.setCell ?_ (by simp; try omega) _))⟩
  · have HM := Lib.hid hm
    have hvb : 0 ≤ v := by omega
    have hvm : v ≤ 300 := by omega
    have hvmm : v ≤ most := by omega
    have HV1 := Lib.hid hv1
    clear hm hv1
    go_wp2_with fail
    refine (iMade_any n _ _ _ _ _ _ _ _ a b t late change most _ (by omega) (by omega) (Rd.of_own o_a) (Nat.le_refl _) (Rd.of_own o_b) (Nat.le_refl _)).mono ?_
    rintro e w4 ⟨rfl, hs⟩
    replace o_a := own_below o_a hs
    replace o_b := own_below o_b hs
    replace hb := hb.trans (hs.mono hb.size)
    clear hs
    rw [HM.out]
    go_wp2_with fail
    refine (iStopsAt n _ _ _ _ a t _ (by omega) (Rd.of_own o_a) (Nat.le_refl _)).mono ?_
    rintro e w5 ⟨rfl, hs⟩
    replace o_a := own_below o_a hs
    replace o_b := own_below o_b hs
    replace hb := hb.trans (hs.mono hb.size)
    clear hs
    rw [EI.out]
    go_wp2_with fail
    refine (iStopsAt n _ _ _ _ b t _ (by omega) (Rd.of_own o_b) (Nat.le_refl _)).mono ?_
    rintro e w6 ⟨rfl, hs⟩
    replace o_a := own_below o_a hs
    replace o_b := own_below o_b hs
    replace hb := hb.trans (hs.mono hb.size)
    clear hs
    rw [EK.out]
    obtain ⟨ba, oa, rfl, -, -, -, ca, -⟩ := (Rd.of_own o_a).at3 i hi
    obtain ⟨bb, ob, rfl, -, -, -, -, cb⟩ := (Rd.of_own o_b).at3 k hk
    rw [← HAI.out] at ca
    rw [← HBK.out] at cb
    have tv0 : decide (v < 0) = false := decide_eq_false (by omega)
    have tv1 : decide (most < v) = false := decide_eq_false (by omega)
    have p3 : IntKind.i64.wrap (bk + v) = bk + v := IntWalk.i64_in _ (by omega)
    have p4 : IntKind.i64.wrap (bk + most) = bk + most := IntWalk.i64_in _ (by omega)
    have t1 : (v == 0) = true := by simp [HV1.out]
    have t2 : decide (bk + most < ai + late + change) = true := decide_eq_true (by omega)
    by_cases hmx : bk < ai + late + change
    · skip
      clear hv2
      go_wp2_with fail
      go_quiet (fail)
      go_wp2_with fail
      go_ret
      exact ⟨rfl, by (repeat (first | exact Below.refl _ _ | assumption | apply below_alloc | apply below_drewN | apply Below.drew | refine Below.setCell ?_ (by simp; try omega) _))⟩
    · exfalso; omega

set_option maxRecDepth 100000 in
theorem connectLate_lifted (os : Os) (started : os.Started) (H : Type) (enc : TypeId × Value → H) :
    ReturnsInHanded {} Try.checked os 6 .any (Rows.fnConnectLateSpec.pre6 enc Try.prog Try.f6 Rows.fnConnectLateRow.domain false) (Rows.fnConnectLateSpec.post enc Try.prog Try.f6 false true false false) := by
  refine returnsInHanded_of_change (C := Try.checked) prog_own started (by kernel_rfl) Try.func6
    (ChangeSpec.witness6 (enc := enc) (C := Try.checked) false ⟨#[], #[.slice none 0 0], []⟩ 8 (by kernel_rfl) (by kernel_rfl) (by kernel_rfl) (by kernel_rfl)) ?_
  intro W base args ds gs before hval0 hW hcnd _
  have hval : ∀ (j : Nat) t v, Try.f6.params[j]? = some t → args[j]? = some v → Value.okWide Try.prog W .any base t v := hval0
  have hW' := hW
  obtain ⟨p, q, hA0, hV, rfl, hfz, hnd⟩ := hW
  have hA : DataW.TrodAll enc Try.prog W 0 (fun _ => true) true Try.f6.params.toList args.toList ds p := hA0
  rw [Try.params6] at hA hval
  obtain ⟨v0, vs0, d0, ds0, p0, q0, hargs, rfl, rfl, h0, r0⟩ := trodAll_cons hA
  obtain ⟨rfl, rfl, rfl⟩ := trodAll_nil r0
  obtain rfl : args = #[v0] := by cases args; simp_all
  obtain ⟨rfl, rfl⟩ := trodVars_none hV
  obtain ⟨a0, len0, cap0, rfl⟩ := okWide_slice Try.underlying22 (hval 0 22 v0 rfl rfl)
  have k0 := h0
  have lt0 : ∀ x ∈ p0, x.block < W.heap.size := by obtain ⟨m, hm⟩ := k0; exact DataW.trod_lt m _ _ _ hm
  obtain ⟨fuel0, hf0⟩ := h0
  obtain ⟨bs0, hm0, hb0, hc0⟩ := open_b1 Try.underlying22 Try.underlying5 (by kernel_rfl) hf0
  clear hA0 hval0
  refine (connectLate_any a0 cap0 len0 bs0 W hm0 hb0 hc0).mono fun e W' ⟨he, bel⟩ => ?_
  subst he
  exact ⟨_, rfl, _, _, _, [], _, [], hW', trodAll_mk1 (shut_bool Try.underlying4 _), (trodAll_cons_mk (Below.trod prog_laidOut (by kernel_rfl) (of_decide_eq_true (by kernel_rfl)) k0 bel lt0) trodAll_mk0), rfl, bel.frame _, fun h => by cases h⟩

theorem connectLate_holds : Rows.FnConnectLateSaid :=
  OpenClaim.holds_of_wide 6 Try.f6 rfl rfl rfl rfl rfl rfl rfl ⟨rfl, rfl, rfl, rfl, rfl⟩ rfl rfl rfl rfl rfl (by kernel_rfl) Try.func6 (by kernel_rfl)
    (of_decide_eq_true (by kernel_rfl)) (by unfold Func.isWrapper; first | (rw [if_pos (by decide +kernel)]; kernel_rfl) | (rw [if_neg (by decide +kernel)]; exact ⟨rfl, rfl⟩))
    (fun os started H enc _ => connectLate_lifted os started H enc)

end Go.Proofs.Yteceohdchknbbaa
