/-
  For every input the law FnExactShareSettle returns true: the program's ShareSettle returns what the reference's returns, in memory of its own, and leaves its arguments as they were.
-/
import Derived.Test.YtmeaegopenbelaaSettleI
import Derived.Test.YtmeaegopenbelaaInts
import Derived.Test.YtmeaegopenbelaaPart
import Derived.Test.YtmeaegopenbelaaShareLen
import Derived.Test.YtmeaegopenbelaaOpen
import Derived.Test.YtmeaegopenbelaaOwn
import Derived.Test.YtmeaegopenbelaaApart
namespace Go.Proofs.Ytmeaegopenbelaa
open Go.ChangeShapes Go.WideShapes Go.ChangeAt Go.RowKit

set_option maxRecDepth 100000 in
set_option maxHeartbeats 4000000 in
theorem exactShareSettle_any (A0 : Option Addr) (c0 : Nat) (l0 : List T2) (A1 : Option Addr) (c1 : Nat) (l1 : List Int) (w : World) (hm0 : l0.length ≤ maxLen) (hr0 : Rd w 0 w.heap.size A0 (flat2 l0)) (_ : ∀ g ∈ l0, in64 g.1 ∧ in64 g.2) (hm1 : l1.length ≤ maxLen) (hr1 : Rd w 0 w.heap.size A1 (ints l1)) (_ : ∀ g ∈ l1, in64 g) :
    Calls Try.prog 9 #[.slice A0 l0.length c0, .slice A1 l1.length c1] w fun e w' => e = .returned (.bool true) ∧ Below w.heap.size w w' := by
  by_cases hbig1 : (1048576 : Int) < l1.length
  · have hbig' := hm1
    unfold maxLen at hbig'
    go_enter Try.func9, Try.ntmps9
    go_wp2_with fail
    go_ret
    exact ⟨rfl, Below.refl _ _⟩
  have hl1 : l1.length ≤ 1048576 := by omega
  by_cases hbig0 : (1048576 : Int) < ((l0.length : Nat) : Int)
  · go_enter Try.func9, Try.ntmps9
    go_wp2_with fail
    refine (szPartS_any _ _ _ _ _ hm0 (by omega) (by omega)).mono ?_
    rw [if_pos hbig0]
    rintro e w1 ⟨rfl, rfl⟩
    go_wp2_with fail
    go_ret
    exact ⟨rfl, Below.refl _ _⟩
  have hl0 : l0.length ≤ 1048576 := by omega
  have hnn0 : (0 : Int) ≤ (1048576 : Int) - ((l0.length : Nat) : Int) := by omega
  go_enter Try.func9, Try.ntmps9
  go_wp2_with fail
  refine (szPartS_any _ _ _ _ _ hm0 (by omega) (by omega)).mono ?_
  rw [if_neg (by omega)]
  rintro e w1 ⟨rfl, rfl⟩
  clear hbig1 hm1 hbig0 hm0
  have hne0 : ((settleOk l0 l1) != (settleOk l0 l1)) = false := by simp
  have heq0 : decide ((settleV l0 l1) = (settleV l0 l1)) = true := by simp
  have hL0 : (settleV l0 l1).length ≤ 1048576 := by (have := settleV_len l0 l1; omega)
  have heqa1 : decide (l1 = l1) = true := by simp
  have heqa0 : decide (l0 = l0) = true := by simp
  go_wp2_with fail
  refine (toPartS_any _ _ _ _ _ _ hl0 hr0 (Nat.le_refl _)).mono ?_
  rintro e w1 ⟨P1, d1, rfl, o1, hs1⟩
  have hz1 := hs1.size
  have hc1 := hs1
  go_wp2_with fail
  refine (toIntS_any _ _ _ _ _ _ hl1 (hr1.below hc1 (Nat.le_refl _)) hc1.size).mono ?_
  rintro e w2 ⟨P2, d2, rfl, o2, hs2⟩
  have hz2 := hs2.size
  have hc2 := hc1.trans (hs2.mono hc1.size)
  have o1_2 := own_below o1 hs2
  go_wp2_with fail
  refine (sSettle_any _ _ _ _ l0 _ _ _ _ l1 _ hl0 (Rd.of_own o1_2) (Nat.le_refl _) hl1 (Rd.of_own o2) (Nat.le_refl _)).mono ?_
  rintro e w3 ⟨P3, d3, rfl, o3, hs3⟩
  have hz3 := hs3.size
  have hc3 := hc2.trans (hs3.mono hc2.size)
  have o1_3 := own_below o1_2 hs3
  clear o1_2
  have o2_3 := own_below o2 hs3
  go_wp2_with fail
  refine (toPartS_any _ _ _ _ _ _ hl0 (hr0.below hc3 (Nat.le_refl _)) hc3.size).mono ?_
  rintro e w4 ⟨P4, d4, rfl, o4, hs4⟩
  have hz4 := hs4.size
  have hc4 := hc3.trans (hs4.mono hc3.size)
  have o3_4 := own_below o3 hs4
  go_wp2_with fail
  refine (toIntS_any _ _ _ _ _ _ hl1 (hr1.below hc4 (Nat.le_refl _)) hc4.size).mono ?_
  rintro e w5 ⟨P5, d5, rfl, o5, hs5⟩
  have hz5 := hs5.size
  have hc5 := hc4.trans (hs5.mono hc4.size)
  have o3_5 := own_below o3_4 hs5
  clear o3_4
  have o4_5 := own_below o4 hs5
  go_wp2_with fail
  refine (iSettle_any _ _ _ _ l0 _ _ _ _ l1 _ hl0 (Rd.of_own o4_5) (Nat.le_refl _) hl1 (Rd.of_own o5) (Nat.le_refl _)).mono ?_
  rintro e w6 ⟨P6, d6, rfl, o6, hs6⟩
  have hz6 := hs6.size
  have hc6 := hc5.trans (hs6.mono hc5.size)
  have o3_6 := own_below o3_5 hs6
  clear o3_5
  have o4_6 := own_below o4_5 hs6
  clear o4_5
  have o5_6 := own_below o5 hs6
  go_wp2_with fail
  refine (eqIntS_any _ _ _ _ _ _ _ _ _ _ _ hL0 (Rd.of_own o6) (Rd.of_own o3_6)).mono ?_
  rintro e w7 ⟨rfl, hs7⟩
  have hz7 := hs7.size
  have hc7 := hc6.trans (hs7.mono hc6.size)
  have o3_7 := own_below o3_6 hs7
  clear o3_6
  have o4_7 := own_below o4_6 hs7
  clear o4_6
  have o5_7 := own_below o5_6 hs7
  clear o5_6
  have o6_7 := own_below o6 hs7
  go_wp2_with fail
  refine (toPartS_any _ _ _ _ _ _ hl0 (hr0.below hc7 (Nat.le_refl _)) hc7.size).mono ?_
  rintro e w8 ⟨P8, d8, rfl, o7, hs8⟩
  have hz8 := hs8.size
  have hc8 := hc7.trans (hs8.mono hc7.size)
  have o3_8 := own_below o3_7 hs8
  clear o3_7
  have o4_8 := own_below o4_7 hs8
  clear o4_7
  have o5_8 := own_below o5_7 hs8
  clear o5_7
  have o6_8 := own_below o6_7 hs8
  clear o6_7
  go_wp2_with fail
  refine (eqPartS_any _ _ _ _ _ _ _ _ _ _ _ hl0 (Rd.of_own o4_8) (Nat.le_refl _) (Rd.of_own o7) (Nat.le_refl _)).mono ?_
  rintro e w9 ⟨rfl, hs9⟩
  have hz9 := hs9.size
  have hc9 := hc8.trans (hs9.mono hc8.size)
  have o3_9 := own_below o3_8 hs9
  clear o3_8
  have o4_9 := own_below o4_8 hs9
  clear o4_8
  have o5_9 := own_below o5_8 hs9
  clear o5_8
  have o6_9 := own_below o6_8 hs9
  clear o6_8
  have o7_9 := own_below o7 hs9
  go_wp2_with fail
  refine (toIntS_any _ _ _ _ _ _ hl1 (hr1.below hc9 (Nat.le_refl _)) hc9.size).mono ?_
  rintro e w10 ⟨P10, d10, rfl, o8, hs10⟩
  have hz10 := hs10.size
  have hc10 := hc9.trans (hs10.mono hc9.size)
  have o3_10 := own_below o3_9 hs10
  clear o3_9
  have o4_10 := own_below o4_9 hs10
  clear o4_9
  have o5_10 := own_below o5_9 hs10
  clear o5_9
  have o6_10 := own_below o6_9 hs10
  clear o6_9
  go_wp2_with fail
  refine (eqIntS_any _ _ _ _ _ _ _ _ _ _ _ hl1 (Rd.of_own o5_10) (Rd.of_own o8)).mono ?_
  rintro e w11 ⟨rfl, hs11⟩
  have hz11 := hs11.size
  have hc11 := hc10.trans (hs11.mono hc10.size)
  have o3_11 := own_below o3_10 hs11
  clear o3_10
  have o4_11 := own_below o4_10 hs11
  clear o4_10
  have o5_11 := own_below o5_10 hs11
  clear o5_10
  have o6_11 := own_below o6_10 hs11
  clear o6_10
  have o8_11 := own_below o8 hs11
  go_wp2_with fail
  refine (markPartS_any _ _ _ _ _ _ (by omega) (by omega) (by omega) o4_11).mono ?_
  rintro e w12 ⟨rfl, o4_12, hg12⟩
  have hz12 := hg12.size
  have hc12 := below_grown hc11 hc11.size o4_11 (by omega) hg12
  have o3_12 := own_apart' o3_11 o4_11 hg12 (fun k hk => Nat.lt_of_lt_of_le (o3.lt k hk).2 (by omega))
  have o5_12 := own_apart o5_11 hg12 (fun k hk => Nat.lt_of_lt_of_le (o4.lt k hk).2 (by omega))
  have o6_12 := own_apart o6_11 hg12 (fun k hk => Nat.lt_of_lt_of_le (o4.lt k hk).2 (by omega))
  go_wp2_with fail
  refine (markIntS_any _ _ _ _ _ _ (by omega) (by omega) (by omega) o5_12).mono ?_
  rintro e w13 ⟨rfl, o5_13, hg13⟩
  have hz13 := hg13.size
  have hc13 := below_grown hc12 hc12.size o5_12 (by omega) hg13
  have o3_13 := own_apart' o3_12 o5_12 hg13 (fun k hk => Nat.lt_of_lt_of_le (o3.lt k hk).2 (by omega))
  have o6_13 := own_apart o6_12 hg13 (fun k hk => Nat.lt_of_lt_of_le (o5.lt k hk).2 (by omega))
  go_wp2_with fail
  refine (eqIntS_any _ _ _ _ _ _ _ _ _ _ _ hL0 (Rd.of_own o6_13) (Rd.of_own o3_13)).mono ?_
  rintro e w14 ⟨rfl, hs14⟩
  have hz14 := hs14.size
  have hc14 := hc13.trans (hs14.mono hc13.size)
  have o3_14 := own_below o3_13 hs14
  clear o3_13
  have o6_14 := own_below o6_13 hs14
  clear o6_13
  go_wp2_with fail
  refine (markIntS_any _ _ _ _ _ _ (by omega) (by omega) (by omega) o6_14).mono ?_
  rintro e w15 ⟨rfl, o6_15, hg15⟩
  have hz15 := hg15.size
  have hc15 := below_grown hc14 hc14.size o6_14 (by omega) hg15
  have o3_15 := own_apart' o3_14 o6_14 hg15 (fun k hk => Nat.lt_of_lt_of_le (o3.lt k hk).2 (by omega))
  go_wp2_with fail
  refine (heldIntS_any _ _ _ _ _ 1 _ (by omega) (by omega) (by omega) (Rd.of_own o6_15)).mono ?_
  rintro e wq ⟨rfl, rfl⟩
  have hqq : ((1 : Int) + ((settleV l0 l1).length : Int) != (1 : Int) + ((settleV l0 l1).length : Int)) = false := by simp
  go_wp2_with fail
  refine (toPartS_any _ _ _ _ _ _ hl0 (hr0.below hc15 (Nat.le_refl _)) hc15.size).mono ?_
  rintro e w16 ⟨P16, d16, rfl, o9, hs16⟩
  have hz16 := hs16.size
  have hc16 := hc15.trans (hs16.mono hc15.size)
  have o3_16 := own_below o3_15 hs16
  clear o3_15
  have o6_16 := own_below o6_15 hs16
  clear o6_15
  go_wp2_with fail
  refine (toIntS_any _ _ _ _ _ _ hl1 (hr1.below hc16 (Nat.le_refl _)) hc16.size).mono ?_
  rintro e w17 ⟨P17, d17, rfl, o10, hs17⟩
  have hz17 := hs17.size
  have hc17 := hc16.trans (hs17.mono hc16.size)
  have o3_17 := own_below o3_16 hs17
  clear o3_16
  have o6_17 := own_below o6_16 hs17
  clear o6_16
  have o9_17 := own_below o9 hs17
  go_wp2_with fail
  refine (iSettle_any _ _ _ _ l0 _ _ _ _ l1 _ hl0 (Rd.of_own o9_17) (Nat.le_refl _) hl1 (Rd.of_own o10) (Nat.le_refl _)).mono ?_
  rintro e w18 ⟨P18, d18, rfl, o11, hs18⟩
  have hz18 := hs18.size
  have hc18 := hc17.trans (hs18.mono hc17.size)
  have o3_18 := own_below o3_17 hs18
  clear o3_17
  have o6_18 := own_below o6_17 hs18
  clear o6_17
  have o9_18 := own_below o9_17 hs18
  clear o9_17
  have o10_18 := own_below o10 hs18
  go_wp2_with fail
  refine (eqIntS_any _ _ _ _ _ _ _ _ _ _ _ hL0 (Rd.of_own o11) (Rd.of_own o3_18)).mono ?_
  rintro e w19 ⟨rfl, hs19⟩
  have hz19 := hs19.size
  have hc19 := hc18.trans (hs19.mono hc18.size)
  have o3_19 := own_below o3_18 hs19
  clear o3_18
  have o6_19 := own_below o6_18 hs19
  clear o6_18
  have o11_19 := own_below o11 hs19
  go_wp2_with fail
  refine (heldIntS_any _ _ _ _ _ 1 _ (by omega) (by omega) (by omega) (Rd.of_own o6_19)).mono ?_
  rintro e wq ⟨rfl, rfl⟩
  go_wp2_with fail
  go_ret
  exact ⟨rfl, hc19⟩

set_option maxRecDepth 100000 in
theorem exactShareSettle_lifted (os : Os) (started : os.Started) (H : Type) (enc : TypeId × Value → H) :
    ReturnsInHanded {} Try.checked os 9 .any (Rows.fnExactShareSettleSpec.pre6 enc Try.prog Try.f9 Rows.fnExactShareSettleRow.domain false) (Rows.fnExactShareSettleSpec.post enc Try.prog Try.f9 false true false false) := by
  refine returnsInHanded_of_change (C := Try.checked) prog_own started (by kernel_rfl) Try.func9
    (ChangeSpec.witness6 (enc := enc) (C := Try.checked) false ⟨#[], #[.slice none 0 0, .slice none 0 0], []⟩ 8 (by kernel_rfl) (by kernel_rfl) (by kernel_rfl) (by kernel_rfl)) ?_
  intro W base args ds gs before hval0 hW hcnd _
  have hval : ∀ (j : Nat) t v, Try.f9.params[j]? = some t → args[j]? = some v → Value.okWide Try.prog W .any base t v := hval0
  have hW' := hW
  obtain ⟨p, q, hA0, hV, rfl, hfz, hnd⟩ := hW
  have hA : DataW.TrodAll enc Try.prog W 0 (fun _ => true) true Try.f9.params.toList args.toList ds p := hA0
  rw [Try.params9] at hA hval
  obtain ⟨v0, vs0, d0, ds0, p0, q0, hargs, rfl, rfl, h0, r0⟩ := trodAll_cons hA
  obtain ⟨v1, vs1, d1, ds1, p1, q1, rfl, rfl, rfl, h1, r1⟩ := trodAll_cons r0
  obtain ⟨rfl, rfl, rfl⟩ := trodAll_nil r1
  obtain rfl : args = #[v0, v1] := by cases args; simp_all
  obtain ⟨rfl, rfl⟩ := trodVars_none hV
  obtain ⟨a0, len0, cap0, rfl⟩ := okWide_slice Try.underlying34 (hval 0 34 v0 rfl rfl)
  have k0 := h0
  have lt0 : ∀ x ∈ p0, x.block < W.heap.size := by obtain ⟨m, hm⟩ := k0; exact DataW.trod_lt m _ _ _ hm
  obtain ⟨fuel0, hf0⟩ := h0
  obtain ⟨l0, rfl, hm0, hr0, hw0⟩ := open_s2 Try.underlying34 Try.underlying65 (by kernel_rfl) (by kernel_rfl) Try.underlying3 Try.underlying3 hf0
  obtain ⟨a1, len1, cap1, rfl⟩ := okWide_slice Try.underlying26 (hval 1 26 v1 rfl rfl)
  have k1 := h1
  have lt1 : ∀ x ∈ p1, x.block < W.heap.size := by obtain ⟨m, hm⟩ := k1; exact DataW.trod_lt m _ _ _ hm
  obtain ⟨fuel1, hf1⟩ := h1
  obtain ⟨l1, rfl, hm1, hr1, hw1⟩ := open_i1 Try.underlying26 Try.underlying3 (by kernel_rfl) hf1
  clear hA0 hval0
  refine (exactShareSettle_any a0 cap0 l0 a1 cap1 l1 W hm0 hr0 hw0 hm1 hr1 hw1).mono fun e W' ⟨he, bel⟩ => ?_
  subst he
  exact ⟨_, rfl, _, _, _, [], _, [], hW', trodAll_mk1 (shut_bool Try.underlying4 _), (trodAll_cons_mk (Below.trod prog_laidOut (by kernel_rfl) (of_decide_eq_true (by kernel_rfl)) k0 bel lt0) (trodAll_cons_mk (Below.trod prog_laidOut (by kernel_rfl) (of_decide_eq_true (by kernel_rfl)) k1 bel lt1) trodAll_mk0)), rfl, bel.frame _, fun h => by cases h⟩

theorem exactShareSettle_holds : Rows.FnExactShareSettleSaid :=
  OpenClaim.holds_of_wide 9 Try.f9 rfl rfl rfl rfl rfl rfl rfl ⟨rfl, rfl, rfl, rfl, rfl⟩ rfl rfl rfl rfl rfl (by kernel_rfl) Try.func9 (by kernel_rfl)
    (of_decide_eq_true (by kernel_rfl)) (by unfold Func.isWrapper; first | (rw [if_pos (by decide +kernel)]; kernel_rfl) | (rw [if_neg (by decide +kernel)]; exact ⟨rfl, rfl⟩))
    (fun os started H enc _ => exactShareSettle_lifted os started H enc)

end Go.Proofs.Ytmeaegopenbelaa
