/-
  For every input the law FnExactNetValid returns true: the program's NetValid returns what the reference's returns, and leaves its arguments as they were.
-/
import Derived.Test.YtbpmhcinagmipaaNetFns
import Derived.Test.YtbpmhcinagmipaaTri
import Derived.Test.YtbpmhcinagmipaaOpen
import Derived.Test.YtbpmhcinagmipaaOwn
import Derived.Test.YtbpmhcinagmipaaApart
namespace Go.Proofs.Ytbpmhcinagmipaa
open Go.ChangeShapes Go.WideShapes Go.ChangeAt Go.RowKit

set_option maxRecDepth 100000 in
set_option maxHeartbeats 4000000 in
theorem exactNetValid_any (n0 : Int) (A1 : Option Addr) (c1 : Nat) (l1 : Net) (w : World) (_ : in64 n0) (hm1 : l1.length ≤ maxLen) (hr1 : RdN w 0 w.heap.size A1 l1) (hin1 : ∀ x ∈ l1, x.length ≤ maxLen ∧ ∀ g ∈ x, in64 g.1 ∧ in64 g.2.1 ∧ in64 g.2.2) :
    Calls Try.prog 4 #[.int .i64 n0, .slice A1 l1.length c1] w fun e w' => e = .returned (.bool true) ∧ Below w.heap.size w w' := by
  by_cases hbig1 : (1048576 : Int) < ((netSize l1 : Nat) : Int)
  · go_enter Try.func4, Try.ntmps4
    go_wp2_with fail
    refine (szStopSS_any _ _ _ _ l1 _ _ hm1 (fun x hx => (hin1 x hx).1) hr1 (by omega) (by omega)).mono ?_
    rw [szV, if_pos hbig1]
    rintro e w1 ⟨rfl, rfl⟩
    go_wp2_with fail
    go_ret
    exact ⟨rfl, Below.refl _ _⟩
  have hl1 : netSize l1 ≤ 1048576 := by omega
  have hnn1 : (0 : Int) ≤ (1048576 : Int) - ((netSize l1 : Nat) : Int) := by omega
  go_enter Try.func4, Try.ntmps4
  go_wp2_with fail
  refine (szStopSS_any _ _ _ _ l1 _ _ hm1 (fun x hx => (hin1 x hx).1) hr1 (by omega) (by omega)).mono ?_
  rw [szV, if_neg (by omega)]
  rintro e w1 ⟨rfl, rfl⟩
  clear hbig1 hm1
  have hne0 : ((netB n0 l1) != (netB n0 l1)) = false := by simp
  have heqa1 : decide (l1 = l1) = true := by simp
  go_wp2_with fail
  refine (toStopSS_any _ _ _ _ _ _ hl1 hr1 (Nat.le_refl _)).mono ?_
  rintro e w1 ⟨P1, d1, rfl, o1, hs1⟩
  have hz1 := hs1.size
  have hc1 := hs1
  go_wp2_with fail
  refine (sNetValid n0 _ _ _ _ l1 _ hl1 (OwnN.rd o1) (Nat.le_refl _)).mono ?_
  rintro e w2 ⟨rfl, hs2⟩
  have hz2 := hs2.size
  have hc2 := hc1.trans (hs2.mono hc1.size)
  have o1_2 := OwnN.below o1 hs2
  go_wp2_with fail
  refine (toStopSS_any _ _ _ _ _ _ hl1 (hr1.below hc2 (Nat.le_refl _)) hc2.size).mono ?_
  rintro e w3 ⟨P3, d3, rfl, o2, hs3⟩
  have hz3 := hs3.size
  have hc3 := hc2.trans (hs3.mono hc2.size)
  go_wp2_with fail
  refine (iNetValid n0 _ _ _ _ l1 _ hl1 (OwnN.rd o2) (Nat.le_refl _)).mono ?_
  rintro e w4 ⟨rfl, hs4⟩
  have hz4 := hs4.size
  have hc4 := hc3.trans (hs4.mono hc3.size)
  have o2_4 := OwnN.below o2 hs4
  go_wp2_with fail
  refine (toStopSS_any _ _ _ _ _ _ hl1 (hr1.below hc4 (Nat.le_refl _)) hc4.size).mono ?_
  rintro e w5 ⟨P5, d5, rfl, o3, hs5⟩
  have hz5 := hs5.size
  have hc5 := hc4.trans (hs5.mono hc4.size)
  have o2_5 := OwnN.below o2_4 hs5
  clear o2_4
  go_wp2_with fail
  refine (eqStopSS_any _ _ _ _ _ _ _ _ _ _ _ hl1 hl1 (OwnN.rd o2_5) (Nat.le_refl _) (OwnN.rd o3) (Nat.le_refl _)).mono ?_
  rintro e w6 ⟨rfl, hs6⟩
  have hz6 := hs6.size
  have hc6 := hc5.trans (hs6.mono hc5.size)
  have o2_6 := OwnN.below o2_5 hs6
  clear o2_5
  have o3_6 := OwnN.below o3 hs6
  go_wp2_with fail
  go_ret
  exact ⟨rfl, hc6⟩

set_option maxRecDepth 100000 in
theorem exactNetValid_lifted (os : Os) (started : os.Started) (H : Type) (enc : TypeId × Value → H) :
    ReturnsInHanded {} Try.checked os 4 .any (Rows.fnExactNetValidSpec.pre6 enc Try.prog Try.f4 Rows.fnExactNetValidRow.domain false) (Rows.fnExactNetValidSpec.post enc Try.prog Try.f4 false true false false) := by
  refine returnsInHanded_of_change (C := Try.checked) prog_own started (by kernel_rfl) Try.func4
    (ChangeSpec.witness6 (enc := enc) (C := Try.checked) false ⟨#[], #[.int .i64 0, .slice none 0 0], []⟩ 8 (by kernel_rfl) (by kernel_rfl) (by kernel_rfl) (by kernel_rfl)) ?_
  intro W base args ds gs before hval0 hW hcnd _
  have hval : ∀ (j : Nat) t v, Try.f4.params[j]? = some t → args[j]? = some v → Value.okWide Try.prog W .any base t v := hval0
  have hW' := hW
  obtain ⟨p, q, hA0, hV, rfl, hfz, hnd⟩ := hW
  have hA : DataW.TrodAll enc Try.prog W 0 (fun _ => true) true Try.f4.params.toList args.toList ds p := hA0
  rw [Try.params4] at hA hval
  obtain ⟨v0, vs0, d0, ds0, p0, q0, hargs, rfl, rfl, h0, r0⟩ := trodAll_cons hA
  obtain ⟨v1, vs1, d1, ds1, p1, q1, rfl, rfl, rfl, h1, r1⟩ := trodAll_cons r0
  obtain ⟨rfl, rfl, rfl⟩ := trodAll_nil r1
  obtain rfl : args = #[v0, v1] := by cases args; simp_all
  obtain ⟨rfl, rfl⟩ := trodVars_none hV
  obtain ⟨n0, rfl, rfl, rfl, w0⟩ := open_int Try.underlying3 (hval 0 3 v0 rfl rfl) h0
  obtain ⟨a1, len1, cap1, rfl⟩ := okWide_slice Try.underlying29 (hval 1 29 v1 rfl rfl)
  have k1 := h1
  have lt1 : ∀ x ∈ p1, x.block < W.heap.size := by obtain ⟨m, hm⟩ := k1; exact DataW.trod_lt m _ _ _ hm
  obtain ⟨fuel1, hf1⟩ := h1
  obtain ⟨l1, rfl, hm1, hr1, hw1⟩ := open_ss3 Try.underlying29 Try.underlying22 Try.underlying61 (by kernel_rfl) (by kernel_rfl) (by kernel_rfl) Try.underlying3 Try.underlying3 Try.underlying3 hf1
  clear hA0 hval0
  refine (exactNetValid_any n0 a1 cap1 l1 W (in64_of_wf w0) hm1 hr1 hw1).mono fun e W' ⟨he, bel⟩ => ?_
  subst he
  exact ⟨_, rfl, _, _, _, [], _, [], hW', trodAll_mk1 (shut_bool Try.underlying4 _), (trodAll_cons_mk (shut_int Try.underlying3 w0) (trodAll_cons_mk (Below.trod prog_laidOut (by kernel_rfl) (of_decide_eq_true (by kernel_rfl)) k1 bel lt1) trodAll_mk0)), rfl, bel.frame _, fun h => by cases h⟩

theorem exactNetValid_holds : Rows.FnExactNetValidSaid :=
  OpenClaim.holds_of_wide 4 Try.f4 rfl rfl rfl rfl rfl rfl rfl ⟨rfl, rfl, rfl, rfl, rfl⟩ rfl rfl rfl rfl rfl (by kernel_rfl) Try.func4 (by kernel_rfl)
    (of_decide_eq_true (by kernel_rfl)) (by unfold Func.isWrapper; first | (rw [if_pos (by decide +kernel)]; kernel_rfl) | (rw [if_neg (by decide +kernel)]; exact ⟨rfl, rfl⟩))
    (fun os started H enc _ => exactNetValid_lifted os started H enc)

end Go.Proofs.Ytbpmhcinagmipaa
