/-
  For every input the law FnExactPostAdd returns true: the program's PostAdd returns what the reference's returns, in memory of its own, and leaves its arguments as they were.
-/
import Derived.Test.YtgffpokipmkjeaaPostAdd
import Derived.Test.YtgffpokipmkjeaaNetMark
import Derived.Test.YtgffpokipmkjeaaTri
import Derived.Test.YtgffpokipmkjeaaOpen
import Derived.Test.YtgffpokipmkjeaaOwn
import Derived.Test.YtgffpokipmkjeaaApart
namespace Go.Proofs.Ytgffpokipmkjeaa
open Go.ChangeShapes Go.WideShapes Go.ChangeAt Go.RowKit

set_option maxRecDepth 100000 in
set_option maxHeartbeats 4000000 in
theorem exactPostAdd_any (n0 : Int) (A1 : Option Addr) (c1 : Nat) (l1 : Net) (A2 : Option Addr) (c2 : Nat) (l2 : List T3) (w : World) (_ : in64 n0) (hm1 : l1.length ≤ maxLen) (hr1 : RdN w 0 w.heap.size A1 l1) (hin1 : ∀ x ∈ l1, x.length ≤ maxLen ∧ ∀ g ∈ x, in64 g.1 ∧ in64 g.2.1 ∧ in64 g.2.2) (hm2 : l2.length ≤ maxLen) (hr2 : Rd w 0 w.heap.size A2 (flat3 l2)) (_ : ∀ g ∈ l2, in64 g.1 ∧ in64 g.2.1 ∧ in64 g.2.2) :
    Calls Try.prog 4 #[.int .i64 n0, .slice A1 l1.length c1, .slice A2 l2.length c2] w fun e w' => e = .returned (.bool true) ∧ Below w.heap.size w w' := by
  by_cases hbig1 : (1048576 : Int) < ((netSize l1 : Nat) : Int)
  · go_enter Try.func4, Try.ntmps4
    go_wp2_with fail
    refine (szStopSS_any _ _ _ _ l1 _ _ hm1 (fun x hx => (hin1 x hx).1) hr1 (by omega) (by omega)).mono ?_
    rw [szV, if_pos hbig1]
    rintro e w1 ⟨rfl, rfl⟩
    go_wp2_with fail
    go_ret
    exact ⟨rfl, Below.refl _ _⟩
  have hl1 : netSize l1 ≤ 1048576 := by omega
  have hls1 : netSum l1 ≤ 1048576 := by have := hl1; unfold netSize at this; omega
  have hnn1 : (0 : Int) ≤ (1048576 : Int) - ((netSize l1 : Nat) : Int) := by omega
  by_cases hbig2 : (1048576 : Int) - ((netSize l1 : Nat) : Int) < ((l2.length : Nat) : Int)
  · go_enter Try.func4, Try.ntmps4
    go_wp2_with fail
    refine (szStopSS_any _ _ _ _ l1 _ _ hm1 (fun x hx => (hin1 x hx).1) hr1 (by omega) (by omega)).mono ?_
    rw [szV, if_neg (by omega)]
    rintro e w1 ⟨rfl, rfl⟩
    go_wp2_with fail
    refine (szStopS_any _ _ _ _ _ hm2 (by omega) (by omega)).mono ?_
    rw [if_pos hbig2]
    rintro e w1 ⟨rfl, rfl⟩
    go_wp2_with fail
    go_ret
    exact ⟨rfl, Below.refl _ _⟩
  have hl2 : l2.length ≤ 1048576 := by omega
  have hnn2 : (0 : Int) ≤ (1048576 : Int) - ((netSize l1 : Nat) : Int) - ((l2.length : Nat) : Int) := by omega
  go_enter Try.func4, Try.ntmps4
  go_wp2_with fail
  refine (szStopSS_any _ _ _ _ l1 _ _ hm1 (fun x hx => (hin1 x hx).1) hr1 (by omega) (by omega)).mono ?_
  rw [szV, if_neg (by omega)]
  rintro e w1 ⟨rfl, rfl⟩
  go_wp2_with fail
  refine (szStopS_any _ _ _ _ _ hm2 (by omega) (by omega)).mono ?_
  rw [if_neg (by omega)]
  rintro e w1 ⟨rfl, rfl⟩
  clear hbig1 hm1 hbig2 hm2
  have hne0 : ((addNOk n0 l1 l2) != (addNOk n0 l1 l2)) = false := by simp
  have heq0 : decide ((addN n0 l1 l2) = (addN n0 l1 l2)) = true := by simp
  have hL0 : netSize (addN n0 l1 l2) ≤ 1048576 := by exact addN_size
  have hLs0 : netSum (addN n0 l1 l2) ≤ 1048576 := by have := hL0; unfold netSize at this; omega
  have heqa1 : decide (l1 = l1) = true := by simp
  have heqa2 : decide (l2 = l2) = true := by simp
  go_wp2_with fail
  refine (toStopSS_any _ _ _ _ _ _ hl1 hr1 (Nat.le_refl _)).mono ?_
  rintro e w1 ⟨P1, d1, rfl, o1, hs1⟩
  have hz1 := hs1.size
  have hc1 := hs1
  have o1B := OwnN.bound o1
  clear o1
  go_wp2_with fail
  refine (toStopS_any _ _ _ _ _ _ hl2 (hr2.below hc1 (Nat.le_refl _)) hc1.size).mono ?_
  rintro e w2 ⟨P2, d2, rfl, o2, hs2⟩
  have hz2 := hs2.size
  have hc2 := hc1.trans (hs2.mono hc1.size)
  have o1B_2 := OwnNB.below o1B hs2
  go_wp2_with fail
  refine (sPostAdd_any n0 _ _ _ _ l1 _ _ _ _ l2 _ hl1 ((OwnN.rd (OwnNB.own o1B_2)).more (Nat.zero_le _) (Nat.le_refl _)) (Nat.le_refl _) hl2 (Rd.of_own o2) (Nat.le_refl _)).mono ?_
  rintro e w3 ⟨P3, d3, rfl, o3, hs3⟩
  have hz3 := hs3.size
  have hc3 := hc2.trans (hs3.mono hc2.size)
  have o1B_3 := OwnNB.below o1B_2 hs3
  clear o1B_2
  have o2_3 := own_below o2 hs3
  have o3B := OwnN.bound o3
  clear o3
  go_wp2_with fail
  refine (toStopSS_any _ _ _ _ _ _ hl1 (hr1.below hc3 (Nat.le_refl _)) hc3.size).mono ?_
  rintro e w4 ⟨P4, d4, rfl, o4, hs4⟩
  have hz4 := hs4.size
  have hc4 := hc3.trans (hs4.mono hc3.size)
  have o3B_4 := OwnNB.below o3B hs4
  have o4B := OwnN.bound o4
  clear o4
  go_wp2_with fail
  refine (toStopS_any _ _ _ _ _ _ hl2 (hr2.below hc4 (Nat.le_refl _)) hc4.size).mono ?_
  rintro e w5 ⟨P5, d5, rfl, o5, hs5⟩
  have hz5 := hs5.size
  have hc5 := hc4.trans (hs5.mono hc4.size)
  have o3B_5 := OwnNB.below o3B_4 hs5
  clear o3B_4
  have o4B_5 := OwnNB.below o4B hs5
  go_wp2_with fail
  refine (iPostAdd_any n0 _ _ _ _ l1 _ _ _ _ l2 _ hl1 ((OwnN.rd (OwnNB.own o4B_5)).more (Nat.zero_le _) (Nat.le_refl _)) (Nat.le_refl _) hl2 (Rd.of_own o5) (Nat.le_refl _)).mono ?_
  rintro e w6 ⟨P6, d6, rfl, o6, hs6⟩
  have hz6 := hs6.size
  have hc6 := hc5.trans (hs6.mono hc5.size)
  have o3B_6 := OwnNB.below o3B_5 hs6
  clear o3B_5
  have o4B_6 := OwnNB.below o4B_5 hs6
  clear o4B_5
  have o5_6 := own_below o5 hs6
  have o6B := OwnN.bound o6
  clear o6
  go_wp2_with fail
  refine (eqStopSS_any _ _ _ _ _ _ _ _ _ _ _ hL0 hL0 (OwnN.rd (OwnNB.own o6B)) (Nat.le_refl _) (OwnN.rd (OwnNB.own o3B_6)) (Nat.le_refl _)).mono ?_
  rintro e w7 ⟨rfl, hs7⟩
  have hz7 := hs7.size
  have hc7 := hc6.trans (hs7.mono hc6.size)
  have o3B_7 := OwnNB.below o3B_6 hs7
  clear o3B_6
  have o4B_7 := OwnNB.below o4B_6 hs7
  clear o4B_6
  have o5_7 := own_below o5_6 hs7
  clear o5_6
  have o6B_7 := OwnNB.below o6B hs7
  go_wp2_with fail
  refine (toStopSS_any _ _ _ _ _ _ hl1 (hr1.below hc7 (Nat.le_refl _)) hc7.size).mono ?_
  rintro e w8 ⟨P8, d8, rfl, o7, hs8⟩
  have hz8 := hs8.size
  have hc8 := hc7.trans (hs8.mono hc7.size)
  have o3B_8 := OwnNB.below o3B_7 hs8
  clear o3B_7
  have o4B_8 := OwnNB.below o4B_7 hs8
  clear o4B_7
  have o5_8 := own_below o5_7 hs8
  clear o5_7
  have o6B_8 := OwnNB.below o6B_7 hs8
  clear o6B_7
  have o7B := OwnN.bound o7
  clear o7
  go_wp2_with fail
  refine (eqStopSS_any _ _ _ _ _ _ _ _ _ _ _ hl1 hl1 (OwnN.rd (OwnNB.own o4B_8)) (Nat.le_refl _) (OwnN.rd (OwnNB.own o7B)) (Nat.le_refl _)).mono ?_
  rintro e w9 ⟨rfl, hs9⟩
  have hz9 := hs9.size
  have hc9 := hc8.trans (hs9.mono hc8.size)
  have o3B_9 := OwnNB.below o3B_8 hs9
  clear o3B_8
  have o4B_9 := OwnNB.below o4B_8 hs9
  clear o4B_8
  have o5_9 := own_below o5_8 hs9
  clear o5_8
  have o6B_9 := OwnNB.below o6B_8 hs9
  clear o6B_8
  have o7B_9 := OwnNB.below o7B hs9
  go_wp2_with fail
  refine (toStopS_any _ _ _ _ _ _ hl2 (hr2.below hc9 (Nat.le_refl _)) hc9.size).mono ?_
  rintro e w10 ⟨P10, d10, rfl, o8, hs10⟩
  have hz10 := hs10.size
  have hc10 := hc9.trans (hs10.mono hc9.size)
  have o3B_10 := OwnNB.below o3B_9 hs10
  clear o3B_9
  have o4B_10 := OwnNB.below o4B_9 hs10
  clear o4B_9
  have o5_10 := own_below o5_9 hs10
  clear o5_9
  have o6B_10 := OwnNB.below o6B_9 hs10
  clear o6B_9
  go_wp2_with fail
  refine (eqStopS_any _ _ _ _ _ _ _ _ _ _ _ hl2 (Rd.of_own o5_10) (Nat.le_refl _) (Rd.of_own o8) (Nat.le_refl _)).mono ?_
  rintro e w11 ⟨rfl, hs11⟩
  have hz11 := hs11.size
  have hc11 := hc10.trans (hs11.mono hc10.size)
  have o3B_11 := OwnNB.below o3B_10 hs11
  clear o3B_10
  have o4B_11 := OwnNB.below o4B_10 hs11
  clear o4B_10
  have o5_11 := own_below o5_10 hs11
  clear o5_10
  have o6B_11 := OwnNB.below o6B_10 hs11
  clear o6B_10
  have o8_11 := own_below o8 hs11
  go_wp2_with fail
  refine (markStopSS_any _ _ _ _ l1 _ _ hl1 (by omega) (by omega) o4B_11).mono ?_
  rintro e w12 ⟨rfl, o4B_12, hg12⟩
  have hz12 := hg12.size
  have hc12 := below_in hc11 hc11.size (by omega) hg12
  have o3B_12 := OwnNB.apart o3B_11 hg12 (by omega)
  have o5_12 := own_in o5_11 hg12 (fun k hk => .inr (by have := (o5_11.lt k hk).1; omega))
  have o6B_12 := OwnNB.apart o6B_11 hg12 (by omega)
  go_wp2_with fail
  refine (markStopS_any _ _ _ _ _ _ (by omega) (by omega) (by omega) o5_12).mono ?_
  rintro e w13 ⟨rfl, o5_13, hg13⟩
  have hz13 := hg13.size
  have hc13 := below_grown hc12 hc12.size o5_12 (by omega) hg13
  have o3B_13 := OwnNB.apartRow o3B_12 hg13 (fun k hk => by have h1 := (o5_12.lt k hk).1; have h2 := (o5.lt k hk).2; omega)
  have o6B_13 := OwnNB.apartRow o6B_12 hg13 (fun k hk => by have h1 := (o5_12.lt k hk).1; have h2 := (o5.lt k hk).2; omega)
  go_wp2_with fail
  refine (eqStopSS_any _ _ _ _ _ _ _ _ _ _ _ hL0 hL0 (OwnN.rd (OwnNB.own o6B_13)) (Nat.le_refl _) (OwnN.rd (OwnNB.own o3B_13)) (Nat.le_refl _)).mono ?_
  rintro e w14 ⟨rfl, hs14⟩
  have hz14 := hs14.size
  have hc14 := hc13.trans (hs14.mono hc13.size)
  have o3B_14 := OwnNB.below o3B_13 hs14
  clear o3B_13
  have o6B_14 := OwnNB.below o6B_13 hs14
  clear o6B_13
  go_wp2_with fail
  refine (markStopSS_any _ _ _ _ (addN n0 l1 l2) _ _ hL0 (by omega) (by omega) o6B_14).mono ?_
  rintro e w15 ⟨rfl, o6B_15, hg15⟩
  have hz15 := hg15.size
  have hc15 := below_in hc14 hc14.size (by omega) hg15
  have o3B_15 := OwnNB.apart o3B_14 hg15 (by omega)
  go_wp2_with fail
  refine (heldStopSS_any _ _ _ _ _ 1 _ hL0 (by omega) (by omega) (OwnNB.rdMarks o6B_15)).mono ?_
  rintro e wq ⟨rfl, rfl⟩
  have hqq : ((1 : Int) + 3 * (netSum (addN n0 l1 l2) : Int) != (1 : Int) + 3 * (netSum (addN n0 l1 l2) : Int)) = false := by simp
  go_wp2_with fail
  refine (toStopSS_any _ _ _ _ _ _ hl1 (hr1.below hc15 (Nat.le_refl _)) hc15.size).mono ?_
  rintro e w16 ⟨P16, d16, rfl, o9, hs16⟩
  have hz16 := hs16.size
  have hc16 := hc15.trans (hs16.mono hc15.size)
  have o3B_16 := OwnNB.below o3B_15 hs16
  clear o3B_15
  have o6B_16 := OwnNB.below o6B_15 hs16
  clear o6B_15
  have o9B := OwnN.bound o9
  clear o9
  go_wp2_with fail
  refine (toStopS_any _ _ _ _ _ _ hl2 (hr2.below hc16 (Nat.le_refl _)) hc16.size).mono ?_
  rintro e w17 ⟨P17, d17, rfl, o10, hs17⟩
  have hz17 := hs17.size
  have hc17 := hc16.trans (hs17.mono hc16.size)
  have o3B_17 := OwnNB.below o3B_16 hs17
  clear o3B_16
  have o6B_17 := OwnNB.below o6B_16 hs17
  clear o6B_16
  have o9B_17 := OwnNB.below o9B hs17
  go_wp2_with fail
  refine (iPostAdd_any n0 _ _ _ _ l1 _ _ _ _ l2 _ hl1 ((OwnN.rd (OwnNB.own o9B_17)).more (Nat.zero_le _) (Nat.le_refl _)) (Nat.le_refl _) hl2 (Rd.of_own o10) (Nat.le_refl _)).mono ?_
  rintro e w18 ⟨P18, d18, rfl, o11, hs18⟩
  have hz18 := hs18.size
  have hc18 := hc17.trans (hs18.mono hc17.size)
  have o3B_18 := OwnNB.below o3B_17 hs18
  clear o3B_17
  have o6B_18 := OwnNB.below o6B_17 hs18
  clear o6B_17
  have o9B_18 := OwnNB.below o9B_17 hs18
  clear o9B_17
  have o10_18 := own_below o10 hs18
  have o11B := OwnN.bound o11
  clear o11
  go_wp2_with fail
  refine (eqStopSS_any _ _ _ _ _ _ _ _ _ _ _ hL0 hL0 (OwnN.rd (OwnNB.own o11B)) (Nat.le_refl _) (OwnN.rd (OwnNB.own o3B_18)) (Nat.le_refl _)).mono ?_
  rintro e w19 ⟨rfl, hs19⟩
  have hz19 := hs19.size
  have hc19 := hc18.trans (hs19.mono hc18.size)
  have o3B_19 := OwnNB.below o3B_18 hs19
  clear o3B_18
  have o6B_19 := OwnNB.below o6B_18 hs19
  clear o6B_18
  have o11B_19 := OwnNB.below o11B hs19
  go_wp2_with fail
  refine (heldStopSS_any _ _ _ _ _ 1 _ hL0 (by omega) (by omega) (OwnNB.rdMarks o6B_19)).mono ?_
  rintro e wq ⟨rfl, rfl⟩
  go_wp2_with fail
  go_ret
  exact ⟨rfl, hc19⟩

set_option maxRecDepth 100000 in
theorem exactPostAdd_lifted (os : Os) (started : os.Started) (H : Type) (enc : TypeId × Value → H) :
    ReturnsInHanded {} Try.checked os 4 .any (Rows.fnExactPostAddSpec.pre6 enc Try.prog Try.f4 Rows.fnExactPostAddRow.domain false) (Rows.fnExactPostAddSpec.post enc Try.prog Try.f4 false true false false) := by
  refine returnsInHanded_of_change (C := Try.checked) prog_own started (by kernel_rfl) Try.func4
    (ChangeSpec.witness6 (enc := enc) (C := Try.checked) false ⟨#[], #[.int .i64 0, .slice none 0 0, .slice none 0 0], []⟩ 8 (by kernel_rfl) (by kernel_rfl) (by kernel_rfl) (by kernel_rfl)) ?_
  intro W base args ds gs before hval0 hW hcnd _
  have hval : ∀ (j : Nat) t v, Try.f4.params[j]? = some t → args[j]? = some v → Value.okWide Try.prog W .any base t v := hval0
  have hW' := hW
  obtain ⟨p, q, hA0, hV, rfl, hfz, hnd⟩ := hW
  have hA : DataW.TrodAll enc Try.prog W 0 (fun _ => true) true Try.f4.params.toList args.toList ds p := hA0
  rw [Try.params4] at hA hval
  obtain ⟨v0, vs0, d0, ds0, p0, q0, hargs, rfl, rfl, h0, r0⟩ := trodAll_cons hA
  obtain ⟨v1, vs1, d1, ds1, p1, q1, rfl, rfl, rfl, h1, r1⟩ := trodAll_cons r0
  obtain ⟨v2, vs2, d2, ds2, p2, q2, rfl, rfl, rfl, h2, r2⟩ := trodAll_cons r1
  obtain ⟨rfl, rfl, rfl⟩ := trodAll_nil r2
  obtain rfl : args = #[v0, v1, v2] := by cases args; simp_all
  obtain ⟨rfl, rfl⟩ := trodVars_none hV
  obtain ⟨n0, rfl, rfl, rfl, w0⟩ := open_int Try.underlying3 (hval 0 3 v0 rfl rfl) h0
  obtain ⟨a1, len1, cap1, rfl⟩ := okWide_slice Try.underlying22 (hval 1 22 v1 rfl rfl)
  have k1 := h1
  have lt1 : ∀ x ∈ p1, x.block < W.heap.size := by obtain ⟨m, hm⟩ := k1; exact DataW.trod_lt m _ _ _ hm
  obtain ⟨fuel1, hf1⟩ := h1
  obtain ⟨l1, rfl, hm1, hr1, hw1⟩ := open_ss3 Try.underlying22 Try.underlying34 Try.underlying75 (by kernel_rfl) (by kernel_rfl) (by kernel_rfl) Try.underlying3 Try.underlying3 Try.underlying3 hf1
  obtain ⟨a2, len2, cap2, rfl⟩ := okWide_slice Try.underlying34 (hval 2 34 v2 rfl rfl)
  have k2 := h2
  have lt2 : ∀ x ∈ p2, x.block < W.heap.size := by obtain ⟨m, hm⟩ := k2; exact DataW.trod_lt m _ _ _ hm
  obtain ⟨fuel2, hf2⟩ := h2
  obtain ⟨l2, rfl, hm2, hr2, hw2⟩ := open_s3 Try.underlying34 Try.underlying75 (by kernel_rfl) (by kernel_rfl) Try.underlying3 Try.underlying3 Try.underlying3 hf2
  clear hA0 hval0
  refine (exactPostAdd_any n0 a1 cap1 l1 a2 cap2 l2 W (in64_of_wf w0) hm1 hr1 hw1 hm2 hr2 hw2).mono fun e W' ⟨he, bel⟩ => ?_
  subst he
  exact ⟨_, rfl, _, _, _, [], _, [], hW', trodAll_mk1 (shut_bool Try.underlying4 _), (trodAll_cons_mk (shut_int Try.underlying3 w0) (trodAll_cons_mk (Below.trod prog_laidOut (by kernel_rfl) (of_decide_eq_true (by kernel_rfl)) k1 bel lt1) (trodAll_cons_mk (Below.trod prog_laidOut (by kernel_rfl) (of_decide_eq_true (by kernel_rfl)) k2 bel lt2) trodAll_mk0))), rfl, bel.frame _, fun h => by cases h⟩

theorem exactPostAdd_holds : Rows.FnExactPostAddSaid :=
  OpenClaim.holds_of_wide 4 Try.f4 rfl rfl rfl rfl rfl rfl rfl ⟨rfl, rfl, rfl, rfl, rfl⟩ rfl rfl rfl rfl rfl (by kernel_rfl) Try.func4 (by kernel_rfl)
    (of_decide_eq_true (by kernel_rfl)) (by unfold Func.isWrapper; first | (rw [if_pos (by decide +kernel)]; kernel_rfl) | (rw [if_neg (by decide +kernel)]; exact ⟨rfl, rfl⟩))
    (fun os started H enc _ => exactPostAdd_lifted os started H enc)

end Go.Proofs.Ytgffpokipmkjeaa
