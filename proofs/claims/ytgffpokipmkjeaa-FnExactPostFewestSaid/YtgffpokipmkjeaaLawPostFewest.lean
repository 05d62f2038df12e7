/-
  For every input the law FnExactPostFewest returns true: the program's PostFewest returns what the reference's returns, and leaves its arguments as they were.
-/
import Derived.Test.YtgffpokipmkjeaaFewS
import Derived.Test.YtgffpokipmkjeaaNetMark
import Derived.Test.YtgffpokipmkjeaaOpen
import Derived.Test.YtgffpokipmkjeaaOwn
import Derived.Test.YtgffpokipmkjeaaApart
namespace Go.Proofs.Ytgffpokipmkjeaa
open Go.ChangeShapes Go.WideShapes Go.ChangeAt Go.RowKit

set_option maxRecDepth 100000 in
set_option maxHeartbeats 4000000 in
theorem exactPostFewest_any (n0 : Int) (A1 : Option Addr) (c1 : Nat) (l1 : Net) (n2 : Int) (n3 : Int) (n4 : Int) (n5 : Int) (w : World) (_ : in64 n0) (hm1 : l1.length ≤ maxLen) (hr1 : RdN w 0 w.heap.size A1 l1) (hin1 : ∀ x ∈ l1, x.length ≤ maxLen ∧ ∀ g ∈ x, in64 g.1 ∧ in64 g.2.1 ∧ in64 g.2.2) (_ : in64 n2) (_ : in64 n3) (_ : in64 n4) (_ : in64 n5) :
    Calls Try.prog 12 #[.int .i64 n0, .slice A1 l1.length c1, .int .i64 n2, .int .i64 n3, .int .i64 n4, .int .i64 n5] w fun e w' => e = .returned (.bool true) ∧ Below w.heap.size w w' := by
  by_cases hbig1 : (1048576 : Int) < ((netSize l1 : Nat) : Int)
  · go_enter Try.func12, Try.ntmps12
    go_wp2_with fail
    refine (szStopSS_any _ _ _ _ l1 _ _ hm1 (fun x hx => (hin1 x hx).1) hr1 (by omega) (by omega)).mono ?_
    rw [szV, if_pos hbig1]
    rintro e w1 ⟨rfl, rfl⟩
    go_wp2_with fail
    go_ret
    exact ⟨rfl, Below.refl _ _⟩
  have hl1 : netSize l1 ≤ 1048576 := by omega
  have hls1 : netSum l1 ≤ 1048576 := by have := hl1; unfold netSize at this; omega
  have hnn1 : (0 : Int) ≤ (1048576 : Int) - ((netSize l1 : Nat) : Int) := by omega
  go_enter Try.func12, Try.ntmps12
  go_wp2_with fail
  refine (szStopSS_any _ _ _ _ l1 _ _ hm1 (fun x hx => (hin1 x hx).1) hr1 (by omega) (by omega)).mono ?_
  rw [szV, if_neg (by omega)]
  rintro e w1 ⟨rfl, rfl⟩
  clear hbig1 hm1
  have hne0 : ((fewV n0 l1 n2 n3 n4 n5) != (fewV n0 l1 n2 n3 n4 n5)) = false := by simp
  have heqa1 : decide (l1 = l1) = true := by simp
  go_wp2_with fail
  refine (toStopSS_any _ _ _ _ _ _ hl1 hr1 (Nat.le_refl _)).mono ?_
  rintro e w1 ⟨P1, d1, rfl, o1, hs1⟩
  have hz1 := hs1.size
  have hc1 := hs1
  have o1B := OwnN.bound o1
  clear o1
  go_wp2_with fail
  refine (sPostFewest_any n0 _ _ _ l1 n2 n3 n4 n5 _ hl1 ((OwnN.rd (OwnNB.own o1B)).more (Nat.zero_le _) (Nat.le_refl _)) (Nat.le_refl _)).mono ?_
  rintro e w2 ⟨rfl, hs2⟩
  have hz2 := hs2.size
  have hc2 := hc1.trans (hs2.mono hc1.size)
  have o1B_2 := OwnNB.below o1B hs2
  go_wp2_with fail
  refine (toStopSS_any _ _ _ _ _ _ hl1 (hr1.below hc2 (Nat.le_refl _)) hc2.size).mono ?_
  rintro e w3 ⟨P3, d3, rfl, o2, hs3⟩
  have hz3 := hs3.size
  have hc3 := hc2.trans (hs3.mono hc2.size)
  have o2B := OwnN.bound o2
  clear o2
  go_wp2_with fail
  refine (iPostFewest_any n0 _ _ _ l1 n2 n3 n4 n5 _ hl1 ((OwnN.rd (OwnNB.own o2B)).more (Nat.zero_le _) (Nat.le_refl _)) (Nat.le_refl _)).mono ?_
  rintro e w4 ⟨rfl, hs4⟩
  have hz4 := hs4.size
  have hc4 := hc3.trans (hs4.mono hc3.size)
  have o2B_4 := OwnNB.below o2B hs4
  go_wp2_with fail
  refine (toStopSS_any _ _ _ _ _ _ hl1 (hr1.below hc4 (Nat.le_refl _)) hc4.size).mono ?_
  rintro e w5 ⟨P5, d5, rfl, o3, hs5⟩
  have hz5 := hs5.size
  have hc5 := hc4.trans (hs5.mono hc4.size)
  have o2B_5 := OwnNB.below o2B_4 hs5
  clear o2B_4
  have o3B := OwnN.bound o3
  clear o3
  go_wp2_with fail
  refine (eqStopSS_any _ _ _ _ _ _ _ _ _ _ _ hl1 hl1 (OwnN.rd (OwnNB.own o2B_5)) (Nat.le_refl _) (OwnN.rd (OwnNB.own o3B)) (Nat.le_refl _)).mono ?_
  rintro e w6 ⟨rfl, hs6⟩
  have hz6 := hs6.size
  have hc6 := hc5.trans (hs6.mono hc5.size)
  have o2B_6 := OwnNB.below o2B_5 hs6
  clear o2B_5
  have o3B_6 := OwnNB.below o3B hs6
  go_wp2_with fail
  go_ret
  exact ⟨rfl, hc6⟩

set_option maxRecDepth 100000 in
theorem exactPostFewest_lifted (os : Os) (started : os.Started) (H : Type) (enc : TypeId × Value → H) :
    ReturnsInHanded {} Try.checked os 12 .any (Rows.fnExactPostFewestSpec.pre6 enc Try.prog Try.f12 Rows.fnExactPostFewestRow.domain false) (Rows.fnExactPostFewestSpec.post enc Try.prog Try.f12 false true false false) := by
  refine returnsInHanded_of_change (C := Try.checked) prog_own started (by kernel_rfl) Try.func12
    (ChangeSpec.witness6 (enc := enc) (C := Try.checked) false ⟨#[], #[.int .i64 0, .slice none 0 0, .int .i64 0, .int .i64 0, .int .i64 0, .int .i64 0], []⟩ 8 (by kernel_rfl) (by kernel_rfl) (by kernel_rfl) (by kernel_rfl)) ?_
  intro W base args ds gs before hval0 hW hcnd _
  have hval : ∀ (j : Nat) t v, Try.f12.params[j]? = some t → args[j]? = some v → Value.okWide Try.prog W .any base t v := hval0
  have hW' := hW
  obtain ⟨p, q, hA0, hV, rfl, hfz, hnd⟩ := hW
  have hA : DataW.TrodAll enc Try.prog W 0 (fun _ => true) true Try.f12.params.toList args.toList ds p := hA0
  rw [Try.params12] at hA hval
  obtain ⟨v0, vs0, d0, ds0, p0, q0, hargs, rfl, rfl, h0, r0⟩ := trodAll_cons hA
  obtain ⟨v1, vs1, d1, ds1, p1, q1, rfl, rfl, rfl, h1, r1⟩ := trodAll_cons r0
  obtain ⟨v2, vs2, d2, ds2, p2, q2, rfl, rfl, rfl, h2, r2⟩ := trodAll_cons r1
  obtain ⟨v3, vs3, d3, ds3, p3, q3, rfl, rfl, rfl, h3, r3⟩ := trodAll_cons r2
  obtain ⟨v4, vs4, d4, ds4, p4, q4, rfl, rfl, rfl, h4, r4⟩ := trodAll_cons r3
  obtain ⟨v5, vs5, d5, ds5, p5, q5, rfl, rfl, rfl, h5, r5⟩ := trodAll_cons r4
  obtain ⟨rfl, rfl, rfl⟩ := trodAll_nil r5
  obtain rfl : args = #[v0, v1, v2, v3, v4, v5] := by cases args; simp_all
  obtain ⟨rfl, rfl⟩ := trodVars_none hV
  obtain ⟨n0, rfl, rfl, rfl, w0⟩ := open_int Try.underlying3 (hval 0 3 v0 rfl rfl) h0
  obtain ⟨a1, len1, cap1, rfl⟩ := okWide_slice Try.underlying22 (hval 1 22 v1 rfl rfl)
  have k1 := h1
  have lt1 : ∀ x ∈ p1, x.block < W.heap.size := by obtain ⟨m, hm⟩ := k1; exact DataW.trod_lt m _ _ _ hm
  obtain ⟨fuel1, hf1⟩ := h1
  obtain ⟨l1, rfl, hm1, hr1, hw1⟩ := open_ss3 Try.underlying22 Try.underlying34 Try.underlying75 (by kernel_rfl) (by kernel_rfl) (by kernel_rfl) Try.underlying3 Try.underlying3 Try.underlying3 hf1
  obtain ⟨n2, rfl, rfl, rfl, w2⟩ := open_int Try.underlying3 (hval 2 3 v2 rfl rfl) h2
  obtain ⟨n3, rfl, rfl, rfl, w3⟩ := open_int Try.underlying3 (hval 3 3 v3 rfl rfl) h3
  obtain ⟨n4, rfl, rfl, rfl, w4⟩ := open_int Try.underlying3 (hval 4 3 v4 rfl rfl) h4
  obtain ⟨n5, rfl, rfl, rfl, w5⟩ := open_int Try.underlying3 (hval 5 3 v5 rfl rfl) h5
  clear hA0 hval0
  refine (exactPostFewest_any n0 a1 cap1 l1 n2 n3 n4 n5 W (in64_of_wf w0) hm1 hr1 hw1 (in64_of_wf w2) (in64_of_wf w3) (in64_of_wf w4) (in64_of_wf w5)).mono fun e W' ⟨he, bel⟩ => ?_
  subst he
  exact ⟨_, rfl, _, _, _, [], _, [], hW', trodAll_mk1 (shut_bool Try.underlying4 _), (trodAll_cons_mk (shut_int Try.underlying3 w0) (trodAll_cons_mk (Below.trod prog_laidOut (by kernel_rfl) (of_decide_eq_true (by kernel_rfl)) k1 bel lt1) (trodAll_cons_mk (shut_int Try.underlying3 w2) (trodAll_cons_mk (shut_int Try.underlying3 w3) (trodAll_cons_mk (shut_int Try.underlying3 w4) (trodAll_cons_mk (shut_int Try.underlying3 w5) trodAll_mk0)))))), rfl, bel.frame _, fun h => by cases h⟩

theorem exactPostFewest_holds : Rows.FnExactPostFewestSaid :=
  OpenClaim.holds_of_wide 12 Try.f12 rfl rfl rfl rfl rfl rfl rfl ⟨rfl, rfl, rfl, rfl, rfl⟩ rfl rfl rfl rfl rfl (by kernel_rfl) Try.func12 (by kernel_rfl)
    (of_decide_eq_true (by kernel_rfl)) (by unfold Func.isWrapper; first | (rw [if_pos (by decide +kernel)]; kernel_rfl) | (rw [if_neg (by decide +kernel)]; exact ⟨rfl, rfl⟩))
    (fun os started H enc _ => exactPostFewest_lifted os started H enc)

end Go.Proofs.Ytgffpokipmkjeaa
