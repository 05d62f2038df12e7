/-
  For every input the law FnConnectMost returns true: beyond the most, the connection is lost.
-/
import Derived.Test.YteceohdchknbbaaConnectLaws
import Derived.Test.YteceohdchknbbaaConnectArgs
import Derived.Test.YteceohdchknbbaaDrawArgs
namespace Go.Proofs.Yteceohdchknbbaa
open Go.ChangeShapes Go.WideShapes Go.ChangeAt Go.RowKit

set_option maxRecDepth 100000 in
set_option maxHeartbeats 4000000 in
theorem connectMost_any (A0 : Option Addr) (c0 n0 : Nat) (bs0 : Nat → Int) (w : World) (hm0 : n0 ≤ maxLen) (hb0 : Byt w w.heap.size A0 n0 bs0) (hc0 : n0 ≤ c0) :
    Calls Try.prog 5 #[.slice A0 n0 c0] w fun e w' => e = .returned (.bool true) ∧ Below w.heap.size w w' := by
  unfold maxLen at hm0
  by_cases hbig0 : (1048576 : Int) < n0
  · go_enter Try.func5, Try.ntmps5
    go_wp2_with fail
    go_ret
    exact ⟨rfl, Below.refl _ _⟩
  have hn0 : n0 ≤ 1048576 := by omega
  have hni0 : (n0 : Int) ≤ 1048576 := by omega
  clear hm0
  go_enter Try.func5, Try.ntmps5
  go_wp2_with fail
  refine (drawConnectMost_any A0 n0 c0 bs0 _ hb0 hn0 hc0).mono ?_
  rintro e w1 ⟨n, A, c, a, B, d, b, t, change, most, rfl, hla, hlb, o_a, o_b, hb⟩
  obtain ⟨v, hv⟩ : ∃ v, v = mostV n a b t change most := ⟨_, rfl⟩
  have HV := Lib.hid hv
  clear hv
  go_wp2_with fail
  refine (iMost_any n _ _ _ _ _ _ _ _ a b t change most _ (by omega) (by omega) (Rd.of_own o_a) (Nat.le_refl _) (Rd.of_own o_b) (Nat.le_refl _)).mono ?_
  rintro e w2 ⟨rfl, hs⟩
  replace o_a := own_below o_a hs
  replace o_b := own_below o_b hs
  replace hb := hb.trans (hs.mono hb.size)
  clear hs
  rw [← HV.out]
  go_wp2_with fail
  refine (sMost_any n _ _ _ _ _ _ _ _ a b t change most _ (by omega) (by omega) (Rd.of_own o_a) (Nat.le_refl _) (Rd.of_own o_b) (Nat.le_refl _)).mono ?_
  rintro e w3 ⟨rfl, hs⟩
  replace o_a := own_below o_a hs
  replace o_b := own_below o_b hs
  replace hb := hb.trans (hs.mono hb.size)
  clear hs
  rw [← HV.out]
  have hne : (v != v) = false := by simp
  have hee : (v == v) = true := by simp
  by_cases hneg : v < 0
  · have hd0 : decide (v < 0) = true := decide_eq_true hneg
    go_wp2_with fail
    go_ret
    exact ⟨rfl, by (repeat (first | exact Below.refl _ _ | assumption | apply below_alloc | apply below_drewN | apply Below.drew | refine Below.setCell ?_ (by simp; try omega) _))⟩
  have hd0 : decide (v < 0) = false := decide_eq_false hneg
  have hv0 : 0 ≤ v := by omega
  obtain ⟨m1, m2, m3, m4, m5⟩ := most_law HV.out hv0
  obtain ⟨vb1, vb2⟩ : -1 ≤ v ∧ v ≤ 300 := by rw [HV.out]; exact mostV_bd
  obtain ⟨x, hx⟩ : ∃ x, x = mostV n a b t (change + 1) most := ⟨_, rfl⟩
  have HX := Lib.hid hx
  rw [← hx] at m3
  have M1 := Lib.hid m1
  have M2 := Lib.hid m2
  clear hx m1 m2 hneg
  have t1 : decide (x ≤ v) = true := decide_eq_true m3
  go_wp2_with fail
  refine (iMost_any n _ _ _ _ _ _ _ _ a b t (change + 1) most _ (by omega) (by omega) (Rd.of_own o_a) (Nat.le_refl _) (Rd.of_own o_b) (Nat.le_refl _)).mono ?_
  rintro e w4 ⟨rfl, hs⟩
  replace o_a := own_below o_a hs
  replace o_b := own_below o_b hs
  replace hb := hb.trans (hs.mono hb.size)
  clear hs
  rw [← HX.out]
  by_cases h3 : v = 300
  · have t3 : (v == 300) = true := by simp [h3]
    have H3 := Lib.hid h3
    clear h3
    go_wp2_with fail
    refine (iMade_any n _ _ _ _ _ _ _ _ a b t v change most _ (by omega) (by omega) (Rd.of_own o_a) (Nat.le_refl _) (Rd.of_own o_b) (Nat.le_refl _)).mono ?_
    rintro e w5 ⟨rfl, hs⟩
    replace o_a := own_below o_a hs
    replace o_b := own_below o_b hs
    replace hb := hb.trans (hs.mono hb.size)
    clear hs
    rw [M1.out]
    go_wp2_with fail
    go_ret
    exact ⟨rfl, by (repeat (first | exact Below.refl _ _ | assumption | apply below_alloc | apply below_drewN | apply Below.drew | refine Below.setCell ?_ (by simp; try omega) _))⟩
  · have t3 : (v == 300) = false := by rw [beq_eq_false_iff_ne]; exact h3
    clear h3
    go_wp2_with fail
    refine (iMade_any n _ _ _ _ _ _ _ _ a b t v change most _ (by omega) (by omega) (Rd.of_own o_a) (Nat.le_refl _) (Rd.of_own o_b) (Nat.le_refl _)).mono ?_
    rintro e w5 ⟨rfl, hs⟩
    replace o_a := own_below o_a hs
    replace o_b := own_below o_b hs
    replace hb := hb.trans (hs.mono hb.size)
    clear hs
    rw [M1.out]
    go_wp2_with fail
    refine (iMade_any n _ _ _ _ _ _ _ _ a b t (v + 1) change most _ (by omega) (by omega) (Rd.of_own o_a) (Nat.le_refl _) (Rd.of_own o_b) (Nat.le_refl _)).mono ?_
    rintro e w6 ⟨rfl, hs⟩
    replace o_a := own_below o_a hs
    replace o_b := own_below o_b hs
    replace hb := hb.trans (hs.mono hb.size)
    clear hs
    rw [M2.out]
    go_wp2_with fail
    go_ret
    exact ⟨rfl, by (repeat (first | exact Below.refl _ _ | assumption | apply below_alloc | apply below_drewN | apply Below.drew | refine Below.setCell ?_ (by simp; try omega) _))⟩

set_option maxRecDepth 100000 in
theorem connectMost_lifted (os : Os) (started : os.Started) (H : Type) (enc : TypeId × Value → H) :
    ReturnsInHanded {} Try.checked os 5 .any (Rows.fnConnectMostSpec.pre6 enc Try.prog Try.f5 Rows.fnConnectMostRow.domain false) (Rows.fnConnectMostSpec.post enc Try.prog Try.f5 false true false false) := by
  refine returnsInHanded_of_change (C := Try.checked) prog_own started (by kernel_rfl) Try.func5
    (ChangeSpec.witness6 (enc := enc) (C := Try.checked) false ⟨#[], #[.slice none 0 0], []⟩ 8 (by kernel_rfl) (by kernel_rfl) (by kernel_rfl) (by kernel_rfl)) ?_
  intro W base args ds gs before hval0 hW hcnd _
  have hval : ∀ (j : Nat) t v, Try.f5.params[j]? = some t → args[j]? = some v → Value.okWide Try.prog W .any base t v := hval0
  have hW' := hW
  obtain ⟨p, q, hA0, hV, rfl, hfz, hnd⟩ := hW
  have hA : DataW.TrodAll enc Try.prog W 0 (fun _ => true) true Try.f5.params.toList args.toList ds p := hA0
  rw [Try.params5] at hA hval
  obtain ⟨v0, vs0, d0, ds0, p0, q0, hargs, rfl, rfl, h0, r0⟩ := trodAll_cons hA
  obtain ⟨rfl, rfl, rfl⟩ := trodAll_nil r0
  obtain rfl : args = #[v0] := by cases args; simp_all
  obtain ⟨rfl, rfl⟩ := trodVars_none hV
  obtain ⟨a0, len0, cap0, rfl⟩ := okWide_slice Try.underlying22 (hval 0 22 v0 rfl rfl)
  have k0 := h0
  have lt0 : ∀ x ∈ p0, x.block < W.heap.size := by obtain ⟨m, hm⟩ := k0; exact DataW.trod_lt m _ _ _ hm
  obtain ⟨fuel0, hf0⟩ := h0
  obtain ⟨bs0, hm0, hb0, hc0⟩ := open_b1 Try.underlying22 Try.underlying5 (by kernel_rfl) hf0
  clear hA0 hval0
  refine (connectMost_any a0 cap0 len0 bs0 W hm0 hb0 hc0).mono fun e W' ⟨he, bel⟩ => ?_
  subst he
  exact ⟨_, rfl, _, _, _, [], _, [], hW', trodAll_mk1 (shut_bool Try.underlying4 _), (trodAll_cons_mk (Below.trod prog_laidOut (by kernel_rfl) (of_decide_eq_true (by kernel_rfl)) k0 bel lt0) trodAll_mk0), rfl, bel.frame _, fun h => by cases h⟩

theorem connectMost_holds : Rows.FnConnectMostSaid :=
  OpenClaim.holds_of_wide 5 Try.f5 rfl rfl rfl rfl rfl rfl rfl ⟨rfl, rfl, rfl, rfl, rfl⟩ rfl rfl rfl rfl rfl (by kernel_rfl) Try.func5 (by kernel_rfl)
    (of_decide_eq_true (by kernel_rfl)) (by unfold Func.isWrapper; first | (rw [if_pos (by decide +kernel)]; kernel_rfl) | (rw [if_neg (by decide +kernel)]; exact ⟨rfl, rfl⟩))
    (fun os started H enc _ => connectMost_lifted os started H enc)

end Go.Proofs.Yteceohdchknbbaa
