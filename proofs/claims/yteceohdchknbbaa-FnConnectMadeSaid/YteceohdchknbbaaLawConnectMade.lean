/-
  For every input the law FnConnectMade returns true: a connection that is made holds with less lateness.
-/
import Derived.Test.YteceohdchknbbaaConnectLaws
import Derived.Test.YteceohdchknbbaaConnectArgs
import Derived.Test.YteceohdchknbbaaDrawArgs
namespace Go.Proofs.Yteceohdchknbbaa
open Go.ChangeShapes Go.WideShapes Go.ChangeAt Go.RowKit

set_option maxRecDepth 100000 in
set_option maxHeartbeats 4000000 in
theorem connectMade_any (A0 : Option Addr) (c0 n0 : Nat) (bs0 : Nat → Int) (A1 : Option Addr) (c1 n1 : Nat) (bs1 : Nat → Int) (w : World) (hm0 : n0 ≤ maxLen) (hb0 : Byt w w.heap.size A0 n0 bs0) (hc0 : n0 ≤ c0) (hm1 : n1 ≤ maxLen) (hb1 : Byt w w.heap.size A1 n1 bs1) (hc1 : n1 ≤ c1) :
    Calls Try.prog 4 #[.slice A0 n0 c0, .slice A1 n1 c1] w fun e w' => e = .returned (.bool true) ∧ Below w.heap.size w w' := by
  unfold maxLen at hm0 hm1
  by_cases hbig0 : (1048576 : Int) < n0
  · go_enter Try.func4, Try.ntmps4
    go_wp2_with fail
    go_ret
    exact ⟨rfl, Below.refl _ _⟩
  by_cases hbig1 : (1048576 : Int) < n1
  · go_enter Try.func4, Try.ntmps4
    go_wp2_with fail
    go_ret
    exact ⟨rfl, Below.refl _ _⟩
  have hn0 : n0 ≤ 1048576 := by omega
  have hni0 : (n0 : Int) ≤ 1048576 := by omega
  have hn1 : n1 ≤ 1048576 := by omega
  have hni1 : (n1 : Int) ≤ 1048576 := by omega
  clear hm0 hm1
  go_enter Try.func4, Try.ntmps4
  go_wp2_with fail
  refine (drawConnectMade_any A0 n0 c0 bs0 _ hb0 hn0 hc0).mono ?_
  rintro e w1 ⟨n, A, c, a, B, d, b, t, late, change, most, rfl, hla, hlb, o_a, o_b, hb⟩
  cases hm : madeB n a b t late change most
  · have HM := Lib.hid hm
    clear hm
    go_wp2_with fail
    refine (iMade_any n _ _ _ _ _ _ _ _ a b t late change most _ (by omega) (by omega) (Rd.of_own o_a) (Nat.le_refl _) (Rd.of_own o_b) (Nat.le_refl _)).mono ?_
    rintro e w2 ⟨rfl, hs⟩
    replace o_a := own_below o_a hs
    replace o_b := own_below o_b hs
    replace hb := hb.trans (hs.mono hb.size)
    clear hs
    rw [HM.out]
    go_wp2_with fail
    refine (sMade_any n _ _ _ _ _ _ _ _ a b t late change most _ (by omega) (by omega) (Rd.of_own o_a) (Nat.le_refl _) (Rd.of_own o_b) (Nat.le_refl _)).mono ?_
    rintro e w3 ⟨rfl, hs⟩
    replace o_a := own_below o_a hs
    replace o_b := own_below o_b hs
    replace hb := hb.trans (hs.mono hb.size)
    clear hs
    rw [HM.out]
    go_wp2_with fail
    go_ret
    exact ⟨rfl, by (repeat (first | exact Below.refl _ _ | assumption | apply below_alloc | apply below_drewN | apply Below.drew | refine Below.setCell ?_ (by simp; try omega) _))⟩
  obtain ⟨m1, m2, m3⟩ := made_law hm
  obtain ⟨hl0, hl1, hc0, hc1, hm0, hm1⟩ := madeB_bd hm
  obtain ⟨vb1, vb2⟩ := mostV_bd (n := n) (a := a) (b := b) (t := t) (change := change) (most := most)
  have HM := Lib.hid hm
  have M2 := Lib.hid m2
  clear hm m2
  have hmod : 0 ≤ (n1 : Int) % (late + 1) ∧ (n1 : Int) % (late + 1) < late + 1 := ⟨Int.emod_nonneg _ (by omega), Int.emod_lt_of_pos _ (by omega)⟩
  obtain ⟨kk, hkk⟩ : ∃ kk, kk = (n1 : Int) % (late + 1) := ⟨_, rfl⟩
  have hdiv : Int.tmod (n1 : Int) (late + 1) = kk := by rw [hkk, Int.tmod_eq_emod_of_nonneg (by omega)]
  rw [← hkk] at hmod
  have hdz : ((late + 1) == 0) = false := by rw [beq_eq_false_iff_ne]; omega
  have HK := Lib.hid (m1 kk hmod.1 (by omega))
  clear m1 hkk
  obtain ⟨hk0, hk1⟩ := hmod
  obtain ⟨x, hx⟩ : ∃ x, x = mostV n a b t change most := ⟨_, rfl⟩
  have HX := Lib.hid hx
  rw [← hx] at m3 vb1 vb2
  clear hx
  have t1 : decide (late ≤ x) = true := decide_eq_true m3
  go_wp2_with fail
  refine (iMade_any n _ _ _ _ _ _ _ _ a b t late change most _ (by omega) (by omega) (Rd.of_own o_a) (Nat.le_refl _) (Rd.of_own o_b) (Nat.le_refl _)).mono ?_
  rintro e w2 ⟨rfl, hs⟩
  replace o_a := own_below o_a hs
  replace o_b := own_below o_b hs
  replace hb := hb.trans (hs.mono hb.size)
  clear hs
  rw [HM.out]
  go_wp2_with fail
  refine (sMade_any n _ _ _ _ _ _ _ _ a b t late change most _ (by omega) (by omega) (Rd.of_own o_a) (Nat.le_refl _) (Rd.of_own o_b) (Nat.le_refl _)).mono ?_
  rintro e w3 ⟨rfl, hs⟩
  replace o_a := own_below o_a hs
  replace o_b := own_below o_b hs
  replace hb := hb.trans (hs.mono hb.size)
  clear hs
  rw [HM.out]
  go_wp2_with fail
  refine (iMade_any n _ _ _ _ _ _ _ _ a b t kk change most _ (by omega) (by omega) (Rd.of_own o_a) (Nat.le_refl _) (Rd.of_own o_b) (Nat.le_refl _)).mono ?_
  rintro e w4 ⟨rfl, hs⟩
  replace o_a := own_below o_a hs
  replace o_b := own_below o_b hs
  replace hb := hb.trans (hs.mono hb.size)
  clear hs
  rw [HK.out]
  by_cases h3 : most = 300
  · have t3 : (most == 300) = true := by simp [h3]
    have H3 := Lib.hid h3
    clear h3
    go_wp2_with fail
    refine (iMost_any n _ _ _ _ _ _ _ _ a b t change most _ (by omega) (by omega) (Rd.of_own o_a) (Nat.le_refl _) (Rd.of_own o_b) (Nat.le_refl _)).mono ?_
    rintro e w5 ⟨rfl, hs⟩
    replace o_a := own_below o_a hs
    replace o_b := own_below o_b hs
    replace hb := hb.trans (hs.mono hb.size)
    clear hs
    rw [← HX.out]
    go_wp2_with fail
    go_ret
    exact ⟨rfl, by (repeat (first | exact Below.refl _ _ | assumption | apply below_alloc | apply below_drewN | apply Below.drew | refine Below.setCell ?_ (by simp; try omega) _))⟩
  · have t3 : (most == 300) = false := by rw [beq_eq_false_iff_ne]; exact h3
    have MM := Lib.hid (M2.out.resolve_left h3)
    clear h3
    go_wp2_with fail
    refine (iMade_any n _ _ _ _ _ _ _ _ a b t late change (most + 1) _ (by omega) (by omega) (Rd.of_own o_a) (Nat.le_refl _) (Rd.of_own o_b) (Nat.le_refl _)).mono ?_
    rintro e w5 ⟨rfl, hs⟩
    replace o_a := own_below o_a hs
    replace o_b := own_below o_b hs
    replace hb := hb.trans (hs.mono hb.size)
    clear hs
    rw [MM.out]
    go_wp2_with fail
    refine (iMost_any n _ _ _ _ _ _ _ _ a b t change most _ (by omega) (by omega) (Rd.of_own o_a) (Nat.le_refl _) (Rd.of_own o_b) (Nat.le_refl _)).mono ?_
    rintro e w6 ⟨rfl, hs⟩
    replace o_a := own_below o_a hs
    replace o_b := own_below o_b hs
    replace hb := hb.trans (hs.mono hb.size)
    clear hs
    rw [← HX.out]
    go_wp2_with fail
    go_ret
    exact ⟨rfl, by (repeat (first | exact Below.refl _ _ | assumption | apply below_alloc | apply below_drewN | apply Below.drew | refine Below.setCell ?_ (by simp; try omega) _))⟩

set_option maxRecDepth 100000 in
theorem connectMade_lifted (os : Os) (started : os.Started) (H : Type) (enc : TypeId × Value → H) :
    ReturnsInHanded {} Try.checked os 4 .any (Rows.fnConnectMadeSpec.pre6 enc Try.prog Try.f4 Rows.fnConnectMadeRow.domain false) (Rows.fnConnectMadeSpec.post enc Try.prog Try.f4 false true false false) := by
  refine returnsInHanded_of_change (C := Try.checked) prog_own started (by kernel_rfl) Try.func4
    (ChangeSpec.witness6 (enc := enc) (C := Try.checked) false ⟨#[], #[.slice none 0 0, .slice none 0 0], []⟩ 8 (by kernel_rfl) (by kernel_rfl) (by kernel_rfl) (by kernel_rfl)) ?_
  intro W base args ds gs before hval0 hW hcnd _
  have hval : ∀ (j : Nat) t v, Try.f4.params[j]? = some t → args[j]? = some v → Value.okWide Try.prog W .any base t v := hval0
  have hW' := hW
  obtain ⟨p, q, hA0, hV, rfl, hfz, hnd⟩ := hW
  have hA : DataW.TrodAll enc Try.prog W 0 (fun _ => true) true Try.f4.params.toList args.toList ds p := hA0
  rw [Try.params4] at hA hval
  obtain ⟨v0, vs0, d0, ds0, p0, q0, hargs, rfl, rfl, h0, r0⟩ := trodAll_cons hA
  obtain ⟨v1, vs1, d1, ds1, p1, q1, rfl, rfl, rfl, h1, r1⟩ := trodAll_cons r0
  obtain ⟨rfl, rfl, rfl⟩ := trodAll_nil r1
  obtain rfl : args = #[v0, v1] := by cases args; simp_all
  obtain ⟨rfl, rfl⟩ := trodVars_none hV
  obtain ⟨a0, len0, cap0, rfl⟩ := okWide_slice Try.underlying22 (hval 0 22 v0 rfl rfl)
  have k0 := h0
  have lt0 : ∀ x ∈ p0, x.block < W.heap.size := by obtain ⟨m, hm⟩ := k0; exact DataW.trod_lt m _ _ _ hm
  obtain ⟨fuel0, hf0⟩ := h0
  obtain ⟨bs0, hm0, hb0, hc0⟩ := open_b1 Try.underlying22 Try.underlying5 (by kernel_rfl) hf0
  obtain ⟨a1, len1, cap1, rfl⟩ := okWide_slice Try.underlying22 (hval 1 22 v1 rfl rfl)
  have k1 := h1
  have lt1 : ∀ x ∈ p1, x.block < W.heap.size := by obtain ⟨m, hm⟩ := k1; exact DataW.trod_lt m _ _ _ hm
  obtain ⟨fuel1, hf1⟩ := h1
  obtain ⟨bs1, hm1, hb1, hc1⟩ := open_b1 Try.underlying22 Try.underlying5 (by kernel_rfl) hf1
  clear hA0 hval0
  refine (connectMade_any a0 cap0 len0 bs0 a1 cap1 len1 bs1 W hm0 hb0 hc0 hm1 hb1 hc1).mono fun e W' ⟨he, bel⟩ => ?_
  subst he
  exact ⟨_, rfl, _, _, _, [], _, [], hW', trodAll_mk1 (shut_bool Try.underlying4 _), (trodAll_cons_mk (Below.trod prog_laidOut (by kernel_rfl) (of_decide_eq_true (by kernel_rfl)) k0 bel lt0) (trodAll_cons_mk (Below.trod prog_laidOut (by kernel_rfl) (of_decide_eq_true (by kernel_rfl)) k1 bel lt1) trodAll_mk0)), rfl, bel.frame _, fun h => by cases h⟩

theorem connectMade_holds : Rows.FnConnectMadeSaid :=
  OpenClaim.holds_of_wide 4 Try.f4 rfl rfl rfl rfl rfl rfl rfl ⟨rfl, rfl, rfl, rfl, rfl⟩ rfl rfl rfl rfl rfl (by kernel_rfl) Try.func4 (by kernel_rfl)
    (of_decide_eq_true (by kernel_rfl)) (by unfold Func.isWrapper; first | (rw [if_pos (by decide +kernel)]; kernel_rfl) | (rw [if_neg (by decide +kernel)]; exact ⟨rfl, rfl⟩))
    (fun os started H enc _ => connectMade_lifted os started H enc)

end Go.Proofs.Yteceohdchknbbaa
