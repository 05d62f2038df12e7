/-
  For every input the law FnExactLateFree returns true: the program's LateFree returns what the reference's returns, and leaves its arguments as they were.
-/
import Derived.Test.YtbpmhcinagmipaaLate
import Derived.Test.YtbpmhcinagmipaaTri
import Derived.Test.YtbpmhcinagmipaaInts
import Derived.Test.YtbpmhcinagmipaaOpen
import Derived.Test.YtbpmhcinagmipaaOwn
import Derived.Test.YtbpmhcinagmipaaApart
namespace Go.Proofs.Ytbpmhcinagmipaa
open Go.ChangeShapes Go.WideShapes Go.ChangeAt Go.RowKit

set_option maxRecDepth 100000 in
set_option maxHeartbeats 4000000 in
theorem exactLateFree_any (n0 : Int) (A1 : Option Addr) (c1 : Nat) (l1 : List T3) (n2 : Int) (w : World) (_ : in64 n0) (hm1 : l1.length ≤ maxLen) (hr1 : Rd w 0 w.heap.size A1 (flat3 l1)) (_ : ∀ g ∈ l1, in64 g.1 ∧ in64 g.2.1 ∧ in64 g.2.2) (_ : in64 n2) :
    Calls Try.prog 5 #[.int .i64 n0, .slice A1 l1.length c1, .int .i64 n2] w fun e w' => e = .returned (.bool true) ∧ Below w.heap.size w w' := by
  by_cases hbig1 : (1048576 : Int) < (l1.length : Int)
  · go_enter Try.func5, Try.ntmps5
    go_wp2_with fail
    refine (szStopS_any _ _ _ _ _ hm1 (by omega) (by omega)).mono ?_
    rw [if_pos hbig1]
    rintro e w1 ⟨rfl, rfl⟩
    go_wp2_with fail
    go_ret
    exact ⟨rfl, Below.refl _ _⟩
  have hl1 : l1.length ≤ 1048576 := by omega
  have hnn1 : (0 : Int) ≤ (1048576 : Int) - (l1.length : Int) := by omega
  go_enter Try.func5, Try.ntmps5
  go_wp2_with fail
  refine (szStopS_any _ _ _ _ _ hm1 (by omega) (by omega)).mono ?_
  rw [if_neg (by omega)]
  rintro e w1 ⟨rfl, rfl⟩
  clear hbig1 hm1
  have hne0 : ((freeV n0 l1 n2) != (freeV n0 l1 n2)) = false := by simp
  have heqa1 : decide (l1 = l1) = true := by simp
  go_wp2_with fail
  refine (toStopS_any _ _ _ _ _ _ hl1 hr1 (Nat.le_refl _)).mono ?_
  rintro e w1 ⟨P1, d1, rfl, o1, hs1⟩
  have hz1 := hs1.size
  have hc1 := hs1
  go_wp2_with fail
  refine (sFree_any n0 _ _ _ _ l1 n2 _ hl1 (Rd.of_own o1) (Nat.le_refl _)).mono ?_
  rintro e w2 ⟨rfl, hs2⟩
  have hz2 := hs2.size
  have hc2 := hc1.trans (hs2.mono hc1.size)
  have o1_2 := own_below o1 hs2
  go_wp2_with fail
  refine (toStopS_any _ _ _ _ _ _ hl1 (hr1.below hc2 (Nat.le_refl _)) hc2.size).mono ?_
  rintro e w3 ⟨P3, d3, rfl, o2, hs3⟩
  have hz3 := hs3.size
  have hc3 := hc2.trans (hs3.mono hc2.size)
  go_wp2_with fail
  refine (iFree_any n0 _ _ _ _ l1 n2 _ hl1 (Rd.of_own o2) (Nat.le_refl _) (own_cap o2)).mono ?_
  rintro e w4 ⟨rfl, hs4⟩
  have hz4 := hs4.size
  have hc4 := hc3.trans (hs4.mono hc3.size)
  have o2_4 := own_below o2 hs4
  go_wp2_with fail
  refine (toStopS_any _ _ _ _ _ _ hl1 (hr1.below hc4 (Nat.le_refl _)) hc4.size).mono ?_
  rintro e w5 ⟨P5, d5, rfl, o3, hs5⟩
  have hz5 := hs5.size
  have hc5 := hc4.trans (hs5.mono hc4.size)
  have o2_5 := own_below o2_4 hs5
  clear o2_4
  go_wp2_with fail
  refine (eqStopS_any _ _ _ _ _ _ _ _ _ _ _ hl1 (Rd.of_own o2_5) (Nat.le_refl _) (Rd.of_own o3) (Nat.le_refl _)).mono ?_
  rintro e w6 ⟨rfl, hs6⟩
  have hz6 := hs6.size
  have hc6 := hc5.trans (hs6.mono hc5.size)
  have o2_6 := own_below o2_5 hs6
  clear o2_5
  have o3_6 := own_below o3 hs6
  go_wp2_with fail
  go_ret
  exact ⟨rfl, hc6⟩

set_option maxRecDepth 100000 in
theorem exactLateFree_lifted (os : Os) (started : os.Started) (H : Type) (enc : TypeId × Value → H) :
    ReturnsInHanded {} Try.checked os 5 .any (Rows.fnExactLateFreeSpec.pre6 enc Try.prog Try.f5 Rows.fnExactLateFreeRow.domain false) (Rows.fnExactLateFreeSpec.post enc Try.prog Try.f5 false true false false) := by
  refine returnsInHanded_of_change (C := Try.checked) prog_own started (by kernel_rfl) Try.func5
    (ChangeSpec.witness6 (enc := enc) (C := Try.checked) false ⟨#[], #[.int .i64 0, .slice none 0 0, .int .i64 0], []⟩ 8 (by kernel_rfl) (by kernel_rfl) (by kernel_rfl) (by kernel_rfl)) ?_
  intro W base args ds gs before hval0 hW hcnd _
  have hval : ∀ (j : Nat) t v, Try.f5.params[j]? = some t → args[j]? = some v → Value.okWide Try.prog W .any base t v := hval0
  have hW' := hW
  obtain ⟨p, q, hA0, hV, rfl, hfz, hnd⟩ := hW
  have hA : DataW.TrodAll enc Try.prog W 0 (fun _ => true) true Try.f5.params.toList args.toList ds p := hA0
  rw [Try.params5] at hA hval
  obtain ⟨v0, vs0, d0, ds0, p0, q0, hargs, rfl, rfl, h0, r0⟩ := trodAll_cons hA
  obtain ⟨v1, vs1, d1, ds1, p1, q1, rfl, rfl, rfl, h1, r1⟩ := trodAll_cons r0
  obtain ⟨v2, vs2, d2, ds2, p2, q2, rfl, rfl, rfl, h2, r2⟩ := trodAll_cons r1
  obtain ⟨rfl, rfl, rfl⟩ := trodAll_nil r2
  obtain rfl : args = #[v0, v1, v2] := by cases args; simp_all
  obtain ⟨rfl, rfl⟩ := trodVars_none hV
  obtain ⟨n0, rfl, rfl, rfl, w0⟩ := open_int Try.underlying3 (hval 0 3 v0 rfl rfl) h0
  obtain ⟨a1, len1, cap1, rfl⟩ := okWide_slice Try.underlying22 (hval 1 22 v1 rfl rfl)
  have k1 := h1
  have lt1 : ∀ x ∈ p1, x.block < W.heap.size := by obtain ⟨m, hm⟩ := k1; exact DataW.trod_lt m _ _ _ hm
  obtain ⟨fuel1, hf1⟩ := h1
  obtain ⟨l1, rfl, hm1, hr1, hw1⟩ := open_s3 Try.underlying22 Try.underlying61 (by kernel_rfl) (by kernel_rfl) Try.underlying3 Try.underlying3 Try.underlying3 hf1
  obtain ⟨n2, rfl, rfl, rfl, w2⟩ := open_int Try.underlying3 (hval 2 3 v2 rfl rfl) h2
  clear hA0 hval0
  refine (exactLateFree_any n0 a1 cap1 l1 n2 W (in64_of_wf w0) hm1 hr1 hw1 (in64_of_wf w2)).mono fun e W' ⟨he, bel⟩ => ?_
  subst he
  exact ⟨_, rfl, _, _, _, [], _, [], hW', trodAll_mk1 (shut_bool Try.underlying4 _), (trodAll_cons_mk (shut_int Try.underlying3 w0) (trodAll_cons_mk (Below.trod prog_laidOut (by kernel_rfl) (of_decide_eq_true (by kernel_rfl)) k1 bel lt1) (trodAll_cons_mk (shut_int Try.underlying3 w2) trodAll_mk0))), rfl, bel.frame _, fun h => by cases h⟩

theorem exactLateFree_holds : Rows.FnExactLateFreeSaid :=
  OpenClaim.holds_of_wide 5 Try.f5 rfl rfl rfl rfl rfl rfl rfl ⟨rfl, rfl, rfl, rfl, rfl⟩ rfl rfl rfl rfl rfl (by kernel_rfl) Try.func5 (by kernel_rfl)
    (of_decide_eq_true (by kernel_rfl)) (by unfold Func.isWrapper; first | (rw [if_pos (by decide +kernel)]; kernel_rfl) | (rw [if_neg (by decide +kernel)]; exact ⟨rfl, rfl⟩))
    (fun os started H enc _ => exactLateFree_lifted os started H enc)

end Go.Proofs.Ytbpmhcinagmipaa
