/-
  For every input the law FnExactShareRide returns true: the program's ShareRide returns what the reference's returns, in memory of its own, and leaves its arguments as they were.
-/
import Derived.Test.YtmeaegopenbelaaShareI
import Derived.Test.YtmeaegopenbelaaInts
import Derived.Test.YtmeaegopenbelaaPart
import Derived.Test.YtmeaegopenbelaaShareLen
import Derived.Test.YtmeaegopenbelaaOpen
import Derived.Test.YtmeaegopenbelaaOwn
import Derived.Test.YtmeaegopenbelaaApart
namespace Go.Proofs.Ytmeaegopenbelaa
open Go.ChangeShapes Go.WideShapes Go.ChangeAt Go.RowKit

set_option maxRecDepth 100000 in
set_option maxHeartbeats 4000000 in
theorem exactShareRide_any (A0 : Option Addr) (c0 : Nat) (l0 : List T2) (n1 : Int) (n2 : Int) (n3 : Int) (w : World) (hm0 : l0.length ≤ maxLen) (hr0 : Rd w 0 w.heap.size A0 (flat2 l0)) (_ : ∀ g ∈ l0, in64 g.1 ∧ in64 g.2) (_ : in64 n1) (_ : in64 n2) (_ : in64 n3) :
    Calls Try.prog 6 #[.slice A0 l0.length c0, .int .i64 n1, .int .i64 n2, .int .i64 n3] w fun e w' => e = .returned (.bool true) ∧ Below w.heap.size w w' := by
  by_cases hbig0 : (1048576 : Int) < ((l0.length : Nat) : Int)
  · go_enter Try.func6, Try.ntmps6
    go_wp2_with fail
    refine (szPartS_any _ _ _ _ _ hm0 (by omega) (by omega)).mono ?_
    rw [if_pos hbig0]
    rintro e w1 ⟨rfl, rfl⟩
    go_wp2_with fail
    go_ret
    exact ⟨rfl, Below.refl _ _⟩
  have hl0 : l0.length ≤ 1048576 := by omega
  have hnn0 : (0 : Int) ≤ (1048576 : Int) - ((l0.length : Nat) : Int) := by omega
  go_enter Try.func6, Try.ntmps6
  go_wp2_with fail
  refine (szPartS_any _ _ _ _ _ hm0 (by omega) (by omega)).mono ?_
  rw [if_neg (by omega)]
  rintro e w1 ⟨rfl, rfl⟩
  clear hbig0 hm0
  have hne0 : ((rideShOk l0 n1 n2 n3) != (rideShOk l0 n1 n2 n3)) = false := by simp
  have heq0 : decide ((rideShV l0 n1 n2 n3) = (rideShV l0 n1 n2 n3)) = true := by simp
  have hL0 : (rideShV l0 n1 n2 n3).length ≤ 1048576 := by (have := rideShV_len l0 n1 n2 n3; omega)
  have heqa0 : decide (l0 = l0) = true := by simp
  go_wp2_with fail
  refine (toPartS_any _ _ _ _ _ _ hl0 hr0 (Nat.le_refl _)).mono ?_
  rintro e w1 ⟨P1, d1, rfl, o1, hs1⟩
  have hz1 := hs1.size
  have hc1 := hs1
  go_wp2_with fail
  refine (sShareRide_any _ _ _ _ l0 n1 n2 n3 _ hl0 (Rd.of_own o1) (Nat.le_refl _) (by assumption)).mono ?_
  rintro e w2 ⟨P2, d2, rfl, o2, hs2⟩
  have hz2 := hs2.size
  have hc2 := hc1.trans (hs2.mono hc1.size)
  have o1_2 := own_below o1 hs2
  go_wp2_with fail
  refine (toPartS_any _ _ _ _ _ _ hl0 (hr0.below hc2 (Nat.le_refl _)) hc2.size).mono ?_
  rintro e w3 ⟨P3, d3, rfl, o3, hs3⟩
  have hz3 := hs3.size
  have hc3 := hc2.trans (hs3.mono hc2.size)
  have o2_3 := own_below o2 hs3
  go_wp2_with fail
  refine (iShareRide_any _ _ _ _ l0 n1 n2 n3 _ hl0 (Rd.of_own o3) (Nat.le_refl _)).mono ?_
  rintro e w4 ⟨P4, d4, rfl, o4, hs4⟩
  have hz4 := hs4.size
  have hc4 := hc3.trans (hs4.mono hc3.size)
  have o2_4 := own_below o2_3 hs4
  clear o2_3
  have o3_4 := own_below o3 hs4
  go_wp2_with fail
  refine (eqIntS_any _ _ _ _ _ _ _ _ _ _ _ hL0 (Rd.of_own o4) (Rd.of_own o2_4)).mono ?_
  rintro e w5 ⟨rfl, hs5⟩
  have hz5 := hs5.size
  have hc5 := hc4.trans (hs5.mono hc4.size)
  have o2_5 := own_below o2_4 hs5
  clear o2_4
  have o3_5 := own_below o3_4 hs5
  clear o3_4
  have o4_5 := own_below o4 hs5
  go_wp2_with fail
  refine (toPartS_any _ _ _ _ _ _ hl0 (hr0.below hc5 (Nat.le_refl _)) hc5.size).mono ?_
  rintro e w6 ⟨P6, d6, rfl, o5, hs6⟩
  have hz6 := hs6.size
  have hc6 := hc5.trans (hs6.mono hc5.size)
  have o2_6 := own_below o2_5 hs6
  clear o2_5
  have o3_6 := own_below o3_5 hs6
  clear o3_5
  have o4_6 := own_below o4_5 hs6
  clear o4_5
  go_wp2_with fail
  refine (eqPartS_any _ _ _ _ _ _ _ _ _ _ _ hl0 (Rd.of_own o3_6) (Nat.le_refl _) (Rd.of_own o5) (Nat.le_refl _)).mono ?_
  rintro e w7 ⟨rfl, hs7⟩
  have hz7 := hs7.size
  have hc7 := hc6.trans (hs7.mono hc6.size)
  have o2_7 := own_below o2_6 hs7
  clear o2_6
  have o3_7 := own_below o3_6 hs7
  clear o3_6
  have o4_7 := own_below o4_6 hs7
  clear o4_6
  have o5_7 := own_below o5 hs7
  go_wp2_with fail
  refine (markPartS_any _ _ _ _ _ _ (by omega) (by omega) (by omega) o3_7).mono ?_
  rintro e w8 ⟨rfl, o3_8, hg8⟩
  have hz8 := hg8.size
  have hc8 := below_grown hc7 hc7.size o3_7 (by omega) hg8
  have o2_8 := own_apart' o2_7 o3_7 hg8 (fun k hk => Nat.lt_of_lt_of_le (o2.lt k hk).2 (by omega))
  have o4_8 := own_apart o4_7 hg8 (fun k hk => Nat.lt_of_lt_of_le (o3.lt k hk).2 (by omega))
  go_wp2_with fail
  refine (eqIntS_any _ _ _ _ _ _ _ _ _ _ _ hL0 (Rd.of_own o4_8) (Rd.of_own o2_8)).mono ?_
  rintro e w9 ⟨rfl, hs9⟩
  have hz9 := hs9.size
  have hc9 := hc8.trans (hs9.mono hc8.size)
  have o2_9 := own_below o2_8 hs9
  clear o2_8
  have o4_9 := own_below o4_8 hs9
  clear o4_8
  go_wp2_with fail
  refine (markIntS_any _ _ _ _ _ _ (by omega) (by omega) (by omega) o4_9).mono ?_
  rintro e w10 ⟨rfl, o4_10, hg10⟩
  have hz10 := hg10.size
  have hc10 := below_grown hc9 hc9.size o4_9 (by omega) hg10
  have o2_10 := own_apart' o2_9 o4_9 hg10 (fun k hk => Nat.lt_of_lt_of_le (o2.lt k hk).2 (by omega))
  go_wp2_with fail
  refine (heldIntS_any _ _ _ _ _ 1 _ (by omega) (by omega) (by omega) (Rd.of_own o4_10)).mono ?_
  rintro e wq ⟨rfl, rfl⟩
  have hqq : ((1 : Int) + ((rideShV l0 n1 n2 n3).length : Int) != (1 : Int) + ((rideShV l0 n1 n2 n3).length : Int)) = false := by simp
  go_wp2_with fail
  refine (toPartS_any _ _ _ _ _ _ hl0 (hr0.below hc10 (Nat.le_refl _)) hc10.size).mono ?_
  rintro e w11 ⟨P11, d11, rfl, o6, hs11⟩
  have hz11 := hs11.size
  have hc11 := hc10.trans (hs11.mono hc10.size)
  have o2_11 := own_below o2_10 hs11
  clear o2_10
  have o4_11 := own_below o4_10 hs11
  clear o4_10
  go_wp2_with fail
  refine (iShareRide_any _ _ _ _ l0 n1 n2 n3 _ hl0 (Rd.of_own o6) (Nat.le_refl _)).mono ?_
  rintro e w12 ⟨P12, d12, rfl, o7, hs12⟩
  have hz12 := hs12.size
  have hc12 := hc11.trans (hs12.mono hc11.size)
  have o2_12 := own_below o2_11 hs12
  clear o2_11
  have o4_12 := own_below o4_11 hs12
  clear o4_11
  have o6_12 := own_below o6 hs12
  go_wp2_with fail
  refine (eqIntS_any _ _ _ _ _ _ _ _ _ _ _ hL0 (Rd.of_own o7) (Rd.of_own o2_12)).mono ?_
  rintro e w13 ⟨rfl, hs13⟩
  have hz13 := hs13.size
  have hc13 := hc12.trans (hs13.mono hc12.size)
  have o2_13 := own_below o2_12 hs13
  clear o2_12
  have o4_13 := own_below o4_12 hs13
  clear o4_12
  have o7_13 := own_below o7 hs13
  go_wp2_with fail
  refine (heldIntS_any _ _ _ _ _ 1 _ (by omega) (by omega) (by omega) (Rd.of_own o4_13)).mono ?_
  rintro e wq ⟨rfl, rfl⟩
  go_wp2_with fail
  go_ret
  exact ⟨rfl, hc13⟩

set_option maxRecDepth 100000 in
theorem exactShareRide_lifted (os : Os) (started : os.Started) (H : Type) (enc : TypeId × Value → H) :
    ReturnsInHanded {} Try.checked os 6 .any (Rows.fnExactShareRideSpec.pre6 enc Try.prog Try.f6 Rows.fnExactShareRideRow.domain false) (Rows.fnExactShareRideSpec.post enc Try.prog Try.f6 false true false false) := by
  refine returnsInHanded_of_change (C := Try.checked) prog_own started (by kernel_rfl) Try.func6
    (ChangeSpec.witness6 (enc := enc) (C := Try.checked) false ⟨#[], #[.slice none 0 0, .int .i64 0, .int .i64 0, .int .i64 0], []⟩ 8 (by kernel_rfl) (by kernel_rfl) (by kernel_rfl) (by kernel_rfl)) ?_
  intro W base args ds gs before hval0 hW hcnd _
  have hval : ∀ (j : Nat) t v, Try.f6.params[j]? = some t → args[j]? = some v → Value.okWide Try.prog W .any base t v := hval0
  have hW' := hW
  obtain ⟨p, q, hA0, hV, rfl, hfz, hnd⟩ := hW
  have hA : DataW.TrodAll enc Try.prog W 0 (fun _ => true) true Try.f6.params.toList args.toList ds p := hA0
  rw [Try.params6] at hA hval
  obtain ⟨v0, vs0, d0, ds0, p0, q0, hargs, rfl, rfl, h0, r0⟩ := trodAll_cons hA
  obtain ⟨v1, vs1, d1, ds1, p1, q1, rfl, rfl, rfl, h1, r1⟩ := trodAll_cons r0
  obtain ⟨v2, vs2, d2, ds2, p2, q2, rfl, rfl, rfl, h2, r2⟩ := trodAll_cons r1
  obtain ⟨v3, vs3, d3, ds3, p3, q3, rfl, rfl, rfl, h3, r3⟩ := trodAll_cons r2
  obtain ⟨rfl, rfl, rfl⟩ := trodAll_nil r3
  obtain rfl : args = #[v0, v1, v2, v3] := by cases args; simp_all
  obtain ⟨rfl, rfl⟩ := trodVars_none hV
  obtain ⟨a0, len0, cap0, rfl⟩ := okWide_slice Try.underlying34 (hval 0 34 v0 rfl rfl)
  have k0 := h0
  have lt0 : ∀ x ∈ p0, x.block < W.heap.size := by obtain ⟨m, hm⟩ := k0; exact DataW.trod_lt m _ _ _ hm
  obtain ⟨fuel0, hf0⟩ := h0
  obtain ⟨l0, rfl, hm0, hr0, hw0⟩ := open_s2 Try.underlying34 Try.underlying65 (by kernel_rfl) (by kernel_rfl) Try.underlying3 Try.underlying3 hf0
  obtain ⟨n1, rfl, rfl, rfl, w1⟩ := open_int Try.underlying3 (hval 1 3 v1 rfl rfl) h1
  obtain ⟨n2, rfl, rfl, rfl, w2⟩ := open_int Try.underlying3 (hval 2 3 v2 rfl rfl) h2
  obtain ⟨n3, rfl, rfl, rfl, w3⟩ := open_int Try.underlying3 (hval 3 3 v3 rfl rfl) h3
  clear hA0 hval0
  refine (exactShareRide_any a0 cap0 l0 n1 n2 n3 W hm0 hr0 hw0 (in64_of_wf w1) (in64_of_wf w2) (in64_of_wf w3)).mono fun e W' ⟨he, bel⟩ => ?_
  subst he
  exact ⟨_, rfl, _, _, _, [], _, [], hW', trodAll_mk1 (shut_bool Try.underlying4 _), (trodAll_cons_mk (Below.trod prog_laidOut (by kernel_rfl) (of_decide_eq_true (by kernel_rfl)) k0 bel lt0) (trodAll_cons_mk (shut_int Try.underlying3 w1) (trodAll_cons_mk (shut_int Try.underlying3 w2) (trodAll_cons_mk (shut_int Try.underlying3 w3) trodAll_mk0)))), rfl, bel.frame _, fun h => by cases h⟩

theorem exactShareRide_holds : Rows.FnExactShareRideSaid :=
  OpenClaim.holds_of_wide 6 Try.f6 rfl rfl rfl rfl rfl rfl rfl ⟨rfl, rfl, rfl, rfl, rfl⟩ rfl rfl rfl rfl rfl (by kernel_rfl) Try.func6 (by kernel_rfl)
    (of_decide_eq_true (by kernel_rfl)) (by unfold Func.isWrapper; first | (rw [if_pos (by decide +kernel)]; kernel_rfl) | (rw [if_neg (by decide +kernel)]; exact ⟨rfl, rfl⟩))
    (fun os started H enc _ => exactShareRide_lifted os started H enc)

end Go.Proofs.Ytmeaegopenbelaa
