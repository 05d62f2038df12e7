/-
  For every input the law FnExactJourneyEnd returns true: the program's JourneyEnd returns what the reference's returns, and leaves its arguments as they were.
-/
import Derived.Test.YtgffpokipmkjeaaJourneyE
import Derived.Test.YtgffpokipmkjeaaTri
import Derived.Test.YtgffpokipmkjeaaNetMark
import Derived.Test.YtgffpokipmkjeaaOpen
import Derived.Test.YtgffpokipmkjeaaOwn
import Derived.Test.YtgffpokipmkjeaaApart
namespace Go.Proofs.Ytgffpokipmkjeaa
open Go.ChangeShapes Go.WideShapes Go.ChangeAt Go.RowKit

set_option maxRecDepth 100000 in
set_option maxHeartbeats 4000000 in
theorem exactJourneyEnd_any (n0 : Int) (A1 : Option Addr) (c1 : Nat) (l1 : Net) (A2 : Option Addr) (c2 : Nat) (l2 : List T3) (n3 : Int) (w : World) (_ : in64 n0) (hm1 : l1.length ≤ maxLen) (hr1 : RdN w 0 w.heap.size A1 l1) (hin1 : ∀ x ∈ l1, x.length ≤ maxLen ∧ ∀ g ∈ x, in64 g.1 ∧ in64 g.2.1 ∧ in64 g.2.2) (hm2 : l2.length ≤ maxLen) (hr2 : Rd w 0 w.heap.size A2 (flat3 l2)) (_ : ∀ g ∈ l2, in64 g.1 ∧ in64 g.2.1 ∧ in64 g.2.2) (_ : in64 n3) :
    Calls Try.prog 6 #[.int .i64 n0, .slice A1 l1.length c1, .slice A2 l2.length c2, .int .i64 n3] w fun e w' => e = .returned (.bool true) ∧ Below w.heap.size w w' := by
  by_cases hbig1 : (1048576 : Int) < ((netSize l1 : Nat) : Int)
  · go_enter Try.func6, Try.ntmps6
    go_wp2_with fail
    refine (szStopSS_any _ _ _ _ l1 _ _ hm1 (fun x hx => (hin1 x hx).1) hr1 (by omega) (by omega)).mono ?_
    rw [szV, if_pos hbig1]
    rintro e w1 ⟨rfl, rfl⟩
    go_wp2_with fail
    go_ret
    exact ⟨rfl, Below.refl _ _⟩
  have hl1 : netSize l1 ≤ 1048576 := by omega
  have hls1 : netSum l1 ≤ 1048576 := by have := hl1; unfold netSize at this; omega
  have hnn1 : (0 : Int) ≤ (1048576 : Int) - ((netSize l1 : Nat) : Int) := by omega
  by_cases hbig2 : (1048576 : Int) - ((netSize l1 : Nat) : Int) < ((l2.length : Nat) : Int)
  · go_enter Try.func6, Try.ntmps6
    go_wp2_with fail
    refine (szStopSS_any _ _ _ _ l1 _ _ hm1 (fun x hx => (hin1 x hx).1) hr1 (by omega) (by omega)).mono ?_
    rw [szV, if_neg (by omega)]
    rintro e w1 ⟨rfl, rfl⟩
    go_wp2_with fail
    refine (szRideS_any _ _ _ _ _ hm2 (by omega) (by omega)).mono ?_
    rw [if_pos hbig2]
    rintro e w1 ⟨rfl, rfl⟩
    go_wp2_with fail
    go_ret
    exact ⟨rfl, Below.refl _ _⟩
  have hl2 : l2.length ≤ 1048576 := by omega
  have hnn2 : (0 : Int) ≤ (1048576 : Int) - ((netSize l1 : Nat) : Int) - ((l2.length : Nat) : Int) := by omega
  go_enter Try.func6, Try.ntmps6
  go_wp2_with fail
  refine (szStopSS_any _ _ _ _ l1 _ _ hm1 (fun x hx => (hin1 x hx).1) hr1 (by omega) (by omega)).mono ?_
  rw [szV, if_neg (by omega)]
  rintro e w1 ⟨rfl, rfl⟩
  go_wp2_with fail
  refine (szRideS_any _ _ _ _ _ hm2 (by omega) (by omega)).mono ?_
  rw [if_neg (by omega)]
  rintro e w1 ⟨rfl, rfl⟩
  clear hbig1 hm1 hbig2 hm2
  have hne0 : ((jendTown n0 l1 l2 n3) != (jendTown n0 l1 l2 n3)) = false := by simp
  have hne1 : ((jendTime n0 l1 l2 n3) != (jendTime n0 l1 l2 n3)) = false := by simp
  have hne2 : ((jendOk n0 l1 l2 n3) != (jendOk n0 l1 l2 n3)) = false := by simp
  have heqa1 : decide (l1 = l1) = true := by simp
  have heqa2 : decide (l2 = l2) = true := by simp
  go_wp2_with fail
  refine (toStopSS_any _ _ _ _ _ _ hl1 hr1 (Nat.le_refl _)).mono ?_
  rintro e w1 ⟨P1, d1, rfl, o1, hs1⟩
  have hz1 := hs1.size
  have hc1 := hs1
  have o1B := OwnN.bound o1
  clear o1
  go_wp2_with fail
  refine (toRideS_any _ _ _ _ _ _ hl2 (hr2.below hc1 (Nat.le_refl _)) hc1.size).mono ?_
  rintro e w2 ⟨P2, d2, rfl, o2, hs2⟩
  have hz2 := hs2.size
  have hc2 := hc1.trans (hs2.mono hc1.size)
  have o1B_2 := OwnNB.below o1B hs2
  go_wp2_with fail
  refine (sJourneyEnd n0 _ _ _ _ l1 _ _ _ _ l2 n3 _ hl1 ((OwnN.rd (OwnNB.own o1B_2)).more (Nat.zero_le _) (Nat.le_refl _)) (Nat.le_refl _) hl2 (Rd.of_own o2) (Nat.le_refl _)).mono ?_
  rintro e w3 ⟨rfl, hs3⟩
  have hz3 := hs3.size
  have hc3 := hc2.trans (hs3.mono hc2.size)
  have o1B_3 := OwnNB.below o1B_2 hs3
  clear o1B_2
  have o2_3 := own_below o2 hs3
  go_wp2_with fail
  refine (toStopSS_any _ _ _ _ _ _ hl1 (hr1.below hc3 (Nat.le_refl _)) hc3.size).mono ?_
  rintro e w4 ⟨P4, d4, rfl, o3, hs4⟩
  have hz4 := hs4.size
  have hc4 := hc3.trans (hs4.mono hc3.size)
  have o3B := OwnN.bound o3
  clear o3
  go_wp2_with fail
  refine (toRideS_any _ _ _ _ _ _ hl2 (hr2.below hc4 (Nat.le_refl _)) hc4.size).mono ?_
  rintro e w5 ⟨P5, d5, rfl, o4, hs5⟩
  have hz5 := hs5.size
  have hc5 := hc4.trans (hs5.mono hc4.size)
  have o3B_5 := OwnNB.below o3B hs5
  go_wp2_with fail
  refine (iJourneyEnd n0 _ _ _ _ l1 _ _ _ _ l2 n3 _ hl1 ((OwnN.rd (OwnNB.own o3B_5)).more (Nat.zero_le _) (Nat.le_refl _)) (Nat.le_refl _) hl2 (Rd.of_own o4) (Nat.le_refl _)).mono ?_
  rintro e w6 ⟨rfl, hs6⟩
  have hz6 := hs6.size
  have hc6 := hc5.trans (hs6.mono hc5.size)
  have o3B_6 := OwnNB.below o3B_5 hs6
  clear o3B_5
  have o4_6 := own_below o4 hs6
  go_wp2_with fail
  refine (toStopSS_any _ _ _ _ _ _ hl1 (hr1.below hc6 (Nat.le_refl _)) hc6.size).mono ?_
  rintro e w7 ⟨P7, d7, rfl, o5, hs7⟩
  have hz7 := hs7.size
  have hc7 := hc6.trans (hs7.mono hc6.size)
  have o3B_7 := OwnNB.below o3B_6 hs7
  clear o3B_6
  have o4_7 := own_below o4_6 hs7
  clear o4_6
  have o5B := OwnN.bound o5
  clear o5
  go_wp2_with fail
  refine (eqStopSS_any _ _ _ _ _ _ _ _ _ _ _ hl1 hl1 (OwnN.rd (OwnNB.own o3B_7)) (Nat.le_refl _) (OwnN.rd (OwnNB.own o5B)) (Nat.le_refl _)).mono ?_
  rintro e w8 ⟨rfl, hs8⟩
  have hz8 := hs8.size
  have hc8 := hc7.trans (hs8.mono hc7.size)
  have o3B_8 := OwnNB.below o3B_7 hs8
  clear o3B_7
  have o4_8 := own_below o4_7 hs8
  clear o4_7
  have o5B_8 := OwnNB.below o5B hs8
  go_wp2_with fail
  refine (toRideS_any _ _ _ _ _ _ hl2 (hr2.below hc8 (Nat.le_refl _)) hc8.size).mono ?_
  rintro e w9 ⟨P9, d9, rfl, o6, hs9⟩
  have hz9 := hs9.size
  have hc9 := hc8.trans (hs9.mono hc8.size)
  have o4_9 := own_below o4_8 hs9
  clear o4_8
  go_wp2_with fail
  refine (eqRideS_any _ _ _ _ _ _ _ _ _ _ _ hl2 (Rd.of_own o4_9) (Nat.le_refl _) (Rd.of_own o6) (Nat.le_refl _)).mono ?_
  rintro e w10 ⟨rfl, hs10⟩
  have hz10 := hs10.size
  have hc10 := hc9.trans (hs10.mono hc9.size)
  have o4_10 := own_below o4_9 hs10
  clear o4_9
  have o6_10 := own_below o6 hs10
  go_wp2_with fail
  go_ret
  exact ⟨rfl, hc10⟩

set_option maxRecDepth 100000 in
theorem exactJourneyEnd_lifted (os : Os) (started : os.Started) (H : Type) (enc : TypeId × Value → H) :
    ReturnsInHanded {} Try.checked os 6 .any (Rows.fnExactJourneyEndSpec.pre6 enc Try.prog Try.f6 Rows.fnExactJourneyEndRow.domain false) (Rows.fnExactJourneyEndSpec.post enc Try.prog Try.f6 false true false false) := by
  refine returnsInHanded_of_change (C := Try.checked) prog_own started (by kernel_rfl) Try.func6
    (ChangeSpec.witness6 (enc := enc) (C := Try.checked) false ⟨#[], #[.int .i64 0, .slice none 0 0, .slice none 0 0, .int .i64 0], []⟩ 8 (by kernel_rfl) (by kernel_rfl) (by kernel_rfl) (by kernel_rfl)) ?_
  intro W base args ds gs before hval0 hW hcnd _
  have hval : ∀ (j : Nat) t v, Try.f6.params[j]? = some t → args[j]? = some v → Value.okWide Try.prog W .any base t v := hval0
  have hW' := hW
  obtain ⟨p, q, hA0, hV, rfl, hfz, hnd⟩ := hW
  have hA : DataW.TrodAll enc Try.prog W 0 (fun _ => true) true Try.f6.params.toList args.toList ds p := hA0
  rw [Try.params6] at hA hval
  obtain ⟨v0, vs0, d0, ds0, p0, q0, hargs, rfl, rfl, h0, r0⟩ := trodAll_cons hA
  obtain ⟨v1, vs1, d1, ds1, p1, q1, rfl, rfl, rfl, h1, r1⟩ := trodAll_cons r0
  obtain ⟨v2, vs2, d2, ds2, p2, q2, rfl, rfl, rfl, h2, r2⟩ := trodAll_cons r1
  obtain ⟨v3, vs3, d3, ds3, p3, q3, rfl, rfl, rfl, h3, r3⟩ := trodAll_cons r2
  obtain ⟨rfl, rfl, rfl⟩ := trodAll_nil r3
  obtain rfl : args = #[v0, v1, v2, v3] := by cases args; simp_all
  obtain ⟨rfl, rfl⟩ := trodVars_none hV
  obtain ⟨n0, rfl, rfl, rfl, w0⟩ := open_int Try.underlying3 (hval 0 3 v0 rfl rfl) h0
  obtain ⟨a1, len1, cap1, rfl⟩ := okWide_slice Try.underlying22 (hval 1 22 v1 rfl rfl)
  have k1 := h1
  have lt1 : ∀ x ∈ p1, x.block < W.heap.size := by obtain ⟨m, hm⟩ := k1; exact DataW.trod_lt m _ _ _ hm
  obtain ⟨fuel1, hf1⟩ := h1
  obtain ⟨l1, rfl, hm1, hr1, hw1⟩ := open_ss3 Try.underlying22 Try.underlying34 Try.underlying75 (by kernel_rfl) (by kernel_rfl) (by kernel_rfl) Try.underlying3 Try.underlying3 Try.underlying3 hf1
  obtain ⟨a2, len2, cap2, rfl⟩ := okWide_slice Try.underlying43 (hval 2 43 v2 rfl rfl)
  have k2 := h2
  have lt2 : ∀ x ∈ p2, x.block < W.heap.size := by obtain ⟨m, hm⟩ := k2; exact DataW.trod_lt m _ _ _ hm
  obtain ⟨fuel2, hf2⟩ := h2
  obtain ⟨l2, rfl, hm2, hr2, hw2⟩ := open_s3 Try.underlying43 Try.underlying80 (by kernel_rfl) (by kernel_rfl) Try.underlying3 Try.underlying3 Try.underlying3 hf2
  obtain ⟨n3, rfl, rfl, rfl, w3⟩ := open_int Try.underlying3 (hval 3 3 v3 rfl rfl) h3
  clear hA0 hval0
  refine (exactJourneyEnd_any n0 a1 cap1 l1 a2 cap2 l2 n3 W (in64_of_wf w0) hm1 hr1 hw1 hm2 hr2 hw2 (in64_of_wf w3)).mono fun e W' ⟨he, bel⟩ => ?_
  subst he
  exact ⟨_, rfl, _, _, _, [], _, [], hW', trodAll_mk1 (shut_bool Try.underlying4 _), (trodAll_cons_mk (shut_int Try.underlying3 w0) (trodAll_cons_mk (Below.trod prog_laidOut (by kernel_rfl) (of_decide_eq_true (by kernel_rfl)) k1 bel lt1) (trodAll_cons_mk (Below.trod prog_laidOut (by kernel_rfl) (of_decide_eq_true (by kernel_rfl)) k2 bel lt2) (trodAll_cons_mk (shut_int Try.underlying3 w3) trodAll_mk0)))), rfl, bel.frame _, fun h => by cases h⟩

theorem exactJourneyEnd_holds : Rows.FnExactJourneyEndSaid :=
  OpenClaim.holds_of_wide 6 Try.f6 rfl rfl rfl rfl rfl rfl rfl ⟨rfl, rfl, rfl, rfl, rfl⟩ rfl rfl rfl rfl rfl (by kernel_rfl) Try.func6 (by kernel_rfl)
    (of_decide_eq_true (by kernel_rfl)) (by unfold Func.isWrapper; first | (rw [if_pos (by decide +kernel)]; kernel_rfl) | (rw [if_neg (by decide +kernel)]; exact ⟨rfl, rfl⟩))
    (fun os started H enc _ => exactJourneyEnd_lifted os started H enc)

end Go.Proofs.Ytgffpokipmkjeaa
