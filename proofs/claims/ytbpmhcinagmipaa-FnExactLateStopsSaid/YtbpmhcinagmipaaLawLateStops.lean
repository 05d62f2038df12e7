/-
  For every input the law FnExactLateStops returns true: the program's LateStops returns what the reference's returns, in memory of its own, and leaves its arguments as they were.
-/
import Derived.Test.YtbpmhcinagmipaaLateStops
import Derived.Test.YtbpmhcinagmipaaTri
import Derived.Test.YtbpmhcinagmipaaInts
import Derived.Test.YtbpmhcinagmipaaOpen
import Derived.Test.YtbpmhcinagmipaaOwn
import Derived.Test.YtbpmhcinagmipaaApart
namespace Go.Proofs.Ytbpmhcinagmipaa
open Go.ChangeShapes Go.WideShapes Go.ChangeAt Go.RowKit

set_option maxRecDepth 100000 in
set_option maxHeartbeats 4000000 in
theorem exactLateStops_any (n0 : Int) (A1 : Option Addr) (c1 : Nat) (l1 : List T3) (n2 : Int) (n3 : Int) (A4 : Option Addr) (c4 : Nat) (l4 : List Int) (w : World) (_ : in64 n0) (hm1 : l1.length ≤ maxLen) (hr1 : Rd w 0 w.heap.size A1 (flat3 l1)) (_ : ∀ g ∈ l1, in64 g.1 ∧ in64 g.2.1 ∧ in64 g.2.2) (_ : in64 n2) (_ : in64 n3) (hm4 : l4.length ≤ maxLen) (hr4 : Rd w 0 w.heap.size A4 (ints l4)) (_ : ∀ g ∈ l4, in64 g) :
    Calls Try.prog 14 #[.int .i64 n0, .slice A1 l1.length c1, .int .i64 n2, .int .i64 n3, .slice A4 l4.length c4] w fun e w' => e = .returned (.bool true) ∧ Below w.heap.size w w' := by
  by_cases hbig4 : (1048576 : Int) < l4.length
  · have hbig' := hm4
    unfold maxLen at hbig'
    go_enter Try.func14, Try.ntmps14
    go_wp2_with fail
    go_ret
    exact ⟨rfl, Below.refl _ _⟩
  have hl4 : l4.length ≤ 1048576 := by omega
  by_cases hbig1 : (1048576 : Int) < (l1.length : Int)
  · go_enter Try.func14, Try.ntmps14
    go_wp2_with fail
    refine (szStopS_any _ _ _ _ _ hm1 (by omega) (by omega)).mono ?_
    rw [if_pos hbig1]
    rintro e w1 ⟨rfl, rfl⟩
    go_wp2_with fail
    go_ret
    exact ⟨rfl, Below.refl _ _⟩
  have hl1 : l1.length ≤ 1048576 := by omega
  have hnn1 : (0 : Int) ≤ (1048576 : Int) - (l1.length : Int) := by omega
  go_enter Try.func14, Try.ntmps14
  go_wp2_with fail
  refine (szStopS_any _ _ _ _ _ hm1 (by omega) (by omega)).mono ?_
  rw [if_neg (by omega)]
  rintro e w1 ⟨rfl, rfl⟩
  clear hbig4 hm4 hbig1 hm1
  have hne0 : ((lstopsOk n0 l1 n2 n3 l4) != (lstopsOk n0 l1 n2 n3 l4)) = false := by simp
  have heq0 : decide ((lstopsL n0 l1 n2 n3 l4) = (lstopsL n0 l1 n2 n3 l4)) = true := by simp
  have hL0 : (lstopsL n0 l1 n2 n3 l4).length ≤ 1048576 := by exact outLen_LateStops (by omega)
  have heqa4 : decide (l4 = l4) = true := by simp
  have heqa1 : decide (l1 = l1) = true := by simp
  go_wp2_with fail
  refine (toStopS_any _ _ _ _ _ _ hl1 hr1 (Nat.le_refl _)).mono ?_
  rintro e w1 ⟨P1, d1, rfl, o1, hs1⟩
  have hz1 := hs1.size
  have hc1 := hs1
  go_wp2_with fail
  refine (toIntS_any _ _ _ _ _ _ hl4 (hr4.below hc1 (Nat.le_refl _)) hc1.size).mono ?_
  rintro e w2 ⟨P2, d2, rfl, o2, hs2⟩
  have hz2 := hs2.size
  have hc2 := hc1.trans (hs2.mono hc1.size)
  have o1_2 := own_below o1 hs2
  go_wp2_with fail
  refine (sStops_any n0 _ _ _ _ l1 n2 n3 _ _ _ _ l4 _ hl1 (Rd.of_own o1_2) (Nat.le_refl _) hl4 (Rd.of_own o2) (Nat.le_refl _)).mono ?_
  rintro e w3 ⟨P3, d3, rfl, o3, hs3⟩
  have hz3 := hs3.size
  have hc3 := hc2.trans (hs3.mono hc2.size)
  have o1_3 := own_below o1_2 hs3
  clear o1_2
  have o2_3 := own_below o2 hs3
  go_wp2_with fail
  refine (toStopS_any _ _ _ _ _ _ hl1 (hr1.below hc3 (Nat.le_refl _)) hc3.size).mono ?_
  rintro e w4 ⟨P4, d4, rfl, o4, hs4⟩
  have hz4 := hs4.size
  have hc4 := hc3.trans (hs4.mono hc3.size)
  have o3_4 := own_below o3 hs4
  go_wp2_with fail
  refine (toIntS_any _ _ _ _ _ _ hl4 (hr4.below hc4 (Nat.le_refl _)) hc4.size).mono ?_
  rintro e w5 ⟨P5, d5, rfl, o5, hs5⟩
  have hz5 := hs5.size
  have hc5 := hc4.trans (hs5.mono hc4.size)
  have o3_5 := own_below o3_4 hs5
  clear o3_4
  have o4_5 := own_below o4 hs5
  go_wp2_with fail
  refine (iStops_any n0 _ _ _ _ l1 n2 n3 _ _ _ _ l4 _ hl1 (Rd.of_own o4_5) (Nat.le_refl _) hl4 (Rd.of_own o5) (Nat.le_refl _) (own_cap o4_5)).mono ?_
  rintro e w6 ⟨P6, d6, rfl, o6, hs6⟩
  have hz6 := hs6.size
  have hc6 := hc5.trans (hs6.mono hc5.size)
  have o3_6 := own_below o3_5 hs6
  clear o3_5
  have o4_6 := own_below o4_5 hs6
  clear o4_5
  have o5_6 := own_below o5 hs6
  go_wp2_with fail
  refine (eqStopS_any _ _ _ _ _ _ _ _ _ _ _ hL0 (Rd.of_own o6) (Nat.le_refl _) (Rd.of_own o3_6) (Nat.le_refl _)).mono ?_
  rintro e w7 ⟨rfl, hs7⟩
  have hz7 := hs7.size
  have hc7 := hc6.trans (hs7.mono hc6.size)
  have o3_7 := own_below o3_6 hs7
  clear o3_6
  have o4_7 := own_below o4_6 hs7
  clear o4_6
  have o5_7 := own_below o5_6 hs7
  clear o5_6
  have o6_7 := own_below o6 hs7
  go_wp2_with fail
  refine (toStopS_any _ _ _ _ _ _ hl1 (hr1.below hc7 (Nat.le_refl _)) hc7.size).mono ?_
  rintro e w8 ⟨P8, d8, rfl, o7, hs8⟩
  have hz8 := hs8.size
  have hc8 := hc7.trans (hs8.mono hc7.size)
  have o3_8 := own_below o3_7 hs8
  clear o3_7
  have o4_8 := own_below o4_7 hs8
  clear o4_7
  have o5_8 := own_below o5_7 hs8
  clear o5_7
  have o6_8 := own_below o6_7 hs8
  clear o6_7
  go_wp2_with fail
  refine (eqStopS_any _ _ _ _ _ _ _ _ _ _ _ hl1 (Rd.of_own o4_8) (Nat.le_refl _) (Rd.of_own o7) (Nat.le_refl _)).mono ?_
  rintro e w9 ⟨rfl, hs9⟩
  have hz9 := hs9.size
  have hc9 := hc8.trans (hs9.mono hc8.size)
  have o3_9 := own_below o3_8 hs9
  clear o3_8
  have o4_9 := own_below o4_8 hs9
  clear o4_8
  have o5_9 := own_below o5_8 hs9
  clear o5_8
  have o6_9 := own_below o6_8 hs9
  clear o6_8
  have o7_9 := own_below o7 hs9
  go_wp2_with fail
  refine (toIntS_any _ _ _ _ _ _ hl4 (hr4.below hc9 (Nat.le_refl _)) hc9.size).mono ?_
  rintro e w10 ⟨P10, d10, rfl, o8, hs10⟩
  have hz10 := hs10.size
  have hc10 := hc9.trans (hs10.mono hc9.size)
  have o3_10 := own_below o3_9 hs10
  clear o3_9
  have o4_10 := own_below o4_9 hs10
  clear o4_9
  have o5_10 := own_below o5_9 hs10
  clear o5_9
  have o6_10 := own_below o6_9 hs10
  clear o6_9
  go_wp2_with fail
  refine (eqIntS_any _ _ _ _ _ _ _ _ _ _ _ hl4 (Rd.of_own o5_10) (Rd.of_own o8)).mono ?_
  rintro e w11 ⟨rfl, hs11⟩
  have hz11 := hs11.size
  have hc11 := hc10.trans (hs11.mono hc10.size)
  have o3_11 := own_below o3_10 hs11
  clear o3_10
  have o4_11 := own_below o4_10 hs11
  clear o4_10
  have o5_11 := own_below o5_10 hs11
  clear o5_10
  have o6_11 := own_below o6_10 hs11
  clear o6_10
  have o8_11 := own_below o8 hs11
  go_wp2_with fail
  refine (markStopS_any _ _ _ _ _ _ (by omega) (by omega) (by omega) o4_11).mono ?_
  rintro e w12 ⟨rfl, o4_12, hg12⟩
  have hz12 := hg12.size
  have hc12 := below_grown hc11 hc11.size o4_11 (by omega) hg12
  have o3_12 := own_apart' o3_11 o4_11 hg12 (fun k hk => Nat.lt_of_lt_of_le (o3.lt k hk).2 (by omega))
  have o5_12 := own_apart o5_11 hg12 (fun k hk => Nat.lt_of_lt_of_le (o4.lt k hk).2 (by omega))
  have o6_12 := own_apart o6_11 hg12 (fun k hk => Nat.lt_of_lt_of_le (o4.lt k hk).2 (by omega))
  go_wp2_with fail
  refine (markIntS_any _ _ _ _ _ _ (by omega) (by omega) (by omega) o5_12).mono ?_
  rintro e w13 ⟨rfl, o5_13, hg13⟩
  have hz13 := hg13.size
  have hc13 := below_grown hc12 hc12.size o5_12 (by omega) hg13
  have o3_13 := own_apart' o3_12 o5_12 hg13 (fun k hk => Nat.lt_of_lt_of_le (o3.lt k hk).2 (by omega))
  have o6_13 := own_apart o6_12 hg13 (fun k hk => Nat.lt_of_lt_of_le (o5.lt k hk).2 (by omega))
  go_wp2_with fail
  refine (eqStopS_any _ _ _ _ _ _ _ _ _ _ _ hL0 (Rd.of_own o6_13) (Nat.le_refl _) (Rd.of_own o3_13) (Nat.le_refl _)).mono ?_
  rintro e w14 ⟨rfl, hs14⟩
  have hz14 := hs14.size
  have hc14 := hc13.trans (hs14.mono hc13.size)
  have o3_14 := own_below o3_13 hs14
  clear o3_13
  have o6_14 := own_below o6_13 hs14
  clear o6_13
  go_wp2_with fail
  refine (markStopS_any _ _ _ _ _ _ (by omega) (by omega) (by omega) o6_14).mono ?_
  rintro e w15 ⟨rfl, o6_15, hg15⟩
  have hz15 := hg15.size
  have hc15 := below_grown hc14 hc14.size o6_14 (by omega) hg15
  have o3_15 := own_apart' o3_14 o6_14 hg15 (fun k hk => Nat.lt_of_lt_of_le (o3.lt k hk).2 (by omega))
  go_wp2_with fail
  refine (heldStopS_any _ _ _ _ _ 1 _ (by omega) (by omega) (by omega) (Rd.of_own o6_15)).mono ?_
  rintro e wq ⟨rfl, rfl⟩
  have hqq : ((1 : Int) + 3 * ((lstopsL n0 l1 n2 n3 l4).length : Int) != (1 : Int) + 3 * ((lstopsL n0 l1 n2 n3 l4).length : Int)) = false := by simp
  go_wp2_with fail
  refine (toStopS_any _ _ _ _ _ _ hl1 (hr1.below hc15 (Nat.le_refl _)) hc15.size).mono ?_
  rintro e w16 ⟨P16, d16, rfl, o9, hs16⟩
  have hz16 := hs16.size
  have hc16 := hc15.trans (hs16.mono hc15.size)
  have o3_16 := own_below o3_15 hs16
  clear o3_15
  have o6_16 := own_below o6_15 hs16
  clear o6_15
  go_wp2_with fail
  refine (toIntS_any _ _ _ _ _ _ hl4 (hr4.below hc16 (Nat.le_refl _)) hc16.size).mono ?_
  rintro e w17 ⟨P17, d17, rfl, o10, hs17⟩
  have hz17 := hs17.size
  have hc17 := hc16.trans (hs17.mono hc16.size)
  have o3_17 := own_below o3_16 hs17
  clear o3_16
  have o6_17 := own_below o6_16 hs17
  clear o6_16
  have o9_17 := own_below o9 hs17
  go_wp2_with fail
  refine (iStops_any n0 _ _ _ _ l1 n2 n3 _ _ _ _ l4 _ hl1 (Rd.of_own o9_17) (Nat.le_refl _) hl4 (Rd.of_own o10) (Nat.le_refl _) (own_cap o9_17)).mono ?_
  rintro e w18 ⟨P18, d18, rfl, o11, hs18⟩
  have hz18 := hs18.size
  have hc18 := hc17.trans (hs18.mono hc17.size)
  have o3_18 := own_below o3_17 hs18
  clear o3_17
  have o6_18 := own_below o6_17 hs18
  clear o6_17
  have o9_18 := own_below o9_17 hs18
  clear o9_17
  have o10_18 := own_below o10 hs18
  go_wp2_with fail
  refine (eqStopS_any _ _ _ _ _ _ _ _ _ _ _ hL0 (Rd.of_own o11) (Nat.le_refl _) (Rd.of_own o3_18) (Nat.le_refl _)).mono ?_
  rintro e w19 ⟨rfl, hs19⟩
  have hz19 := hs19.size
  have hc19 := hc18.trans (hs19.mono hc18.size)
  have o3_19 := own_below o3_18 hs19
  clear o3_18
  have o6_19 := own_below o6_18 hs19
  clear o6_18
  have o11_19 := own_below o11 hs19
  go_wp2_with fail
  refine (heldStopS_any _ _ _ _ _ 1 _ (by omega) (by omega) (by omega) (Rd.of_own o6_19)).mono ?_
  rintro e wq ⟨rfl, rfl⟩
  go_wp2_with fail
  go_ret
  exact ⟨rfl, hc19⟩

set_option maxRecDepth 100000 in
theorem exactLateStops_lifted (os : Os) (started : os.Started) (H : Type) (enc : TypeId × Value → H) :
    ReturnsInHanded {} Try.checked os 14 .any (Rows.fnExactLateStopsSpec.pre6 enc Try.prog Try.f14 Rows.fnExactLateStopsRow.domain false) (Rows.fnExactLateStopsSpec.post enc Try.prog Try.f14 false true false false) := by
  refine returnsInHanded_of_change (C := Try.checked) prog_own started (by kernel_rfl) Try.func14
    (ChangeSpec.witness6 (enc := enc) (C := Try.checked) false ⟨#[], #[.int .i64 0, .slice none 0 0, .int .i64 0, .int .i64 0, .slice none 0 0], []⟩ 8 (by kernel_rfl) (by kernel_rfl) (by kernel_rfl) (by kernel_rfl)) ?_
  intro W base args ds gs before hval0 hW hcnd _
  have hval : ∀ (j : Nat) t v, Try.f14.params[j]? = some t → args[j]? = some v → Value.okWide Try.prog W .any base t v := hval0
  have hW' := hW
  obtain ⟨p, q, hA0, hV, rfl, hfz, hnd⟩ := hW
  have hA : DataW.TrodAll enc Try.prog W 0 (fun _ => true) true Try.f14.params.toList args.toList ds p := hA0
  rw [Try.params14] at hA hval
  obtain ⟨v0, vs0, d0, ds0, p0, q0, hargs, rfl, rfl, h0, r0⟩ := trodAll_cons hA
  obtain ⟨v1, vs1, d1, ds1, p1, q1, rfl, rfl, rfl, h1, r1⟩ := trodAll_cons r0
  obtain ⟨v2, vs2, d2, ds2, p2, q2, rfl, rfl, rfl, h2, r2⟩ := trodAll_cons r1
  obtain ⟨v3, vs3, d3, ds3, p3, q3, rfl, rfl, rfl, h3, r3⟩ := trodAll_cons r2
  obtain ⟨v4, vs4, d4, ds4, p4, q4, rfl, rfl, rfl, h4, r4⟩ := trodAll_cons r3
  obtain ⟨rfl, rfl, rfl⟩ := trodAll_nil r4
  obtain rfl : args = #[v0, v1, v2, v3, v4] := by cases args; simp_all
  obtain ⟨rfl, rfl⟩ := trodVars_none hV
  obtain ⟨n0, rfl, rfl, rfl, w0⟩ := open_int Try.underlying3 (hval 0 3 v0 rfl rfl) h0
  obtain ⟨a1, len1, cap1, rfl⟩ := okWide_slice Try.underlying22 (hval 1 22 v1 rfl rfl)
  have k1 := h1
  have lt1 : ∀ x ∈ p1, x.block < W.heap.size := by obtain ⟨m, hm⟩ := k1; exact DataW.trod_lt m _ _ _ hm
  obtain ⟨fuel1, hf1⟩ := h1
  obtain ⟨l1, rfl, hm1, hr1, hw1⟩ := open_s3 Try.underlying22 Try.underlying61 (by kernel_rfl) (by kernel_rfl) Try.underlying3 Try.underlying3 Try.underlying3 hf1
  obtain ⟨n2, rfl, rfl, rfl, w2⟩ := open_int Try.underlying3 (hval 2 3 v2 rfl rfl) h2
  obtain ⟨n3, rfl, rfl, rfl, w3⟩ := open_int Try.underlying3 (hval 3 3 v3 rfl rfl) h3
  obtain ⟨a4, len4, cap4, rfl⟩ := okWide_slice Try.underlying42 (hval 4 42 v4 rfl rfl)
  have k4 := h4
  have lt4 : ∀ x ∈ p4, x.block < W.heap.size := by obtain ⟨m, hm⟩ := k4; exact DataW.trod_lt m _ _ _ hm
  obtain ⟨fuel4, hf4⟩ := h4
  obtain ⟨l4, rfl, hm4, hr4, hw4⟩ := open_i1 Try.underlying42 Try.underlying3 (by kernel_rfl) hf4
  clear hA0 hval0
  refine (exactLateStops_any n0 a1 cap1 l1 n2 n3 a4 cap4 l4 W (in64_of_wf w0) hm1 hr1 hw1 (in64_of_wf w2) (in64_of_wf w3) hm4 hr4 hw4).mono fun e W' ⟨he, bel⟩ => ?_
  subst he
  exact ⟨_, rfl, _, _, _, [], _, [], hW', trodAll_mk1 (shut_bool Try.underlying4 _), (trodAll_cons_mk (shut_int Try.underlying3 w0) (trodAll_cons_mk (Below.trod prog_laidOut (by kernel_rfl) (of_decide_eq_true (by kernel_rfl)) k1 bel lt1) (trodAll_cons_mk (shut_int Try.underlying3 w2) (trodAll_cons_mk (shut_int Try.underlying3 w3) (trodAll_cons_mk (Below.trod prog_laidOut (by kernel_rfl) (of_decide_eq_true (by kernel_rfl)) k4 bel lt4) trodAll_mk0))))), rfl, bel.frame _, fun h => by cases h⟩

theorem exactLateStops_holds : Rows.FnExactLateStopsSaid :=
  OpenClaim.holds_of_wide 14 Try.f14 rfl rfl rfl rfl rfl rfl rfl ⟨rfl, rfl, rfl, rfl, rfl⟩ rfl rfl rfl rfl rfl (by kernel_rfl) Try.func14 (by kernel_rfl)
    (of_decide_eq_true (by kernel_rfl)) (by unfold Func.isWrapper; first | (rw [if_pos (by decide +kernel)]; kernel_rfl) | (rw [if_neg (by decide +kernel)]; exact ⟨rfl, rfl⟩))
    (fun os started H enc _ => exactLateStops_lifted os started H enc)

end Go.Proofs.Ytbpmhcinagmipaa
